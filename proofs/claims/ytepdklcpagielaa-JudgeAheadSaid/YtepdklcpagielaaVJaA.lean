/-
  Judge: what is found at a note hangs on the notes up to that one alone.
-/
import Derived.Test.YtepdklcpagielaaVJu
import Derived.Test.YtepdklcpagielaaVJdA
import Derived.Test.YtepdklcpagielaaVR0
set_option maxRecDepth 100000
set_option linter.unusedSimpArgs false
set_option linter.unusedVariables false
namespace Go.Proofs.Ytepdklcpagielaa
open Go Ads
namespace Ir
theorem cutA_nts {k n : Nat} {l : List Nt} (h : n ≤ l.length) : pV (.slice 7 false true false) [.fz k (nts l), .int .i64 ((n : Nat) : Int)] = some (.fz (sliceKind k false n l.length l.length) (nts (l.take n))) := by
  have hb : bounds (nts l).length (nts l).length false true false [.int .i64 ((n : Nat) : Int)] = some (0, n, (nts l).length) := by
    have b1 : Nat.ble 0 n = true := Nat.ble_eq_true_of_le (Nat.zero_le _)
    have b2 : Nat.ble n (nts l).length = true := by rw [len_nts]; exact Nat.ble_eq_true_of_le h
    have b3 : Nat.ble (nts l).length (nts l).length = true := Nat.ble_eq_true_of_le (Nat.le_refl _)
    show cond (Nat.ble 0 n && Nat.ble n (nts l).length && Nat.ble (nts l).length (nts l).length) _ _ = _
    rw [b1, b2, b3]
    rfl
  show sliceV 7 false true false k (nts l) [.int .i64 ((n : Nat) : Int)] = _
  unfold sliceV
  rw [hb]
  have h0 : (Nat.beq 0 (nts l).length && Nat.beq k 0 && !Nat.beq 0 0) = false := by simp
  show cond (Nat.beq 0 (nts l).length && Nat.beq k 0 && !Nat.beq 0 0) _ _ = _
  rw [h0, cond_false, size_nts, cond_true, len_nts, List.drop_zero, Nat.sub_zero, nts, nts, List.map_take]
/-- The last tick of notes, 400 at most. -/
def upS (l : List Nt) : Int := l.foldl (fun u x => max u (min x.a 400)) 0
theorem upS_next {l : List Nt} {j : Nat} (hj : j < l.length) : upS (l.take (j + 1)) = max (upS (l.take j)) (min l[j].a 400) := by
  rw [take_next hj, upS, List.foldl_append]
  rfl
theorem up_facts : ∀ (l : List Nt) (u : Int), 0 ≤ u → u ≤ 400 → (u ≤ l.foldl (fun u x => max u (min x.a 400)) u ∧ l.foldl (fun u x => max u (min x.a 400)) u ≤ 400) ∧ ∀ x ∈ l, (x.a > 400 ↔ x.a > l.foldl (fun u x => max u (min x.a 400)) u)
  | [], u, h0, h4 => ⟨⟨Int.le_refl _, h4⟩, fun x hx => by simp at hx⟩
  | y :: l, u, h0, h4 => by
    obtain ⟨⟨a, b⟩, c⟩ := up_facts l (max u (min y.a 400)) (by omega) (by omega)
    simp only [List.foldl_cons]
    refine ⟨⟨by omega, b⟩, fun x hx => ?_⟩
    rcases List.mem_cons.1 hx with rfl | hx
    · constructor <;> intro h <;> omega
    · exact c x hx
theorem note_un {un un' : Int} {s : Ks} {x : Nt} (h : x.a > un ↔ x.a > un') : noteS un s x = noteS un' s x := by
  have hs : shapedS s.1 s.2.2.1 un x = shapedS s.1 s.2.2.1 un' x := by
    unfold shapedS
    rw [show decide (x.a > un) = decide (x.a > un') from decide_eq_decide.2 h]
  unfold noteS
  rw [hs]
theorem run_un {un un' : Int} : ∀ {l : List Nt} {j : Nat} {s : Ks}, (∀ x ∈ l, (x.a > un ↔ x.a > un')) → runS un j s l = runS un' j s l
  | [], j, s, _ => rfl
  | x :: l, j, s, h => by
    simp only [runS]
    rw [note_un (h x (by simp))]
    split
    · rfl
    · exact run_un (fun y hy => h y (by simp [hy]))
theorem run_app {un : Int} : ∀ {l m : List Nt} {j : Nat} {s : Ks}, runS un j s (l ++ m) = match runS un j s l with | .inl r => .inl r | .inr s' => runS un (j + l.length) s' m
  | [], m, j, s => rfl
  | x :: l, m, j, s => by
    simp only [List.cons_append, runS]
    cases noteS un s x with
    | inl r => rfl
    | inr s' =>
      simp only
      rw [run_app (l := l) (m := m) (j := j + 1) (s := s'), List.length_cons, show j + 1 + l.length = j + (l.length + 1) by omega]
theorem run_lt {un : Int} : ∀ {l : List Nt} {j : Nat} {s : Ks} {r : Int × Nat}, runS un j s l = .inl r → j ≤ r.2 ∧ r.2 < j + l.length
  | [], j, s, r, h => by simp [runS] at h
  | x :: l, j, s, r, h => by
    simp only [runS] at h
    split at h
    · simp only [Sum.inl.injEq] at h
      subst h
      simp
    · obtain ⟨a, b⟩ := run_lt h
      rw [List.length_cons]
      omega
theorem byS_posA {n : Nat} {ps : List Pr} {now : Int} {ran gone : Bool} {rule : Int} (h : byS n ps now ran gone = .inl rule) : 0 < rule := by
  unfold byS at h
  split at h
  · simp only [Sum.inl.injEq] at h; omega
  · split at h
    · simp only [Sum.inl.injEq] at h; omega
    · split at h
      · simp only [Sum.inl.injEq] at h; omega
      · simp at h
theorem toS_posA {n : Nat} {rule : Int} : ∀ {k : Nat} {ps : List Pr} {now : Int} {ran gone : Bool}, toS n k ps now ran gone = .inl rule → 0 < rule := by
  intro k
  induction k with
  | zero => intro ps now ran gone h; simp [toS] at h
  | succ k ih2 =>
    intro ps now ran gone h
    simp only [toS] at h
    split at h
    · rename_i r' hr'
      simp only [Sum.inl.injEq] at h
      subst h
      exact byS_posA hr'
    · exact ih2 h
theorem timely_vals (p : Pr) (x : Nt) (t : Tk) : 0 ≤ timelyS p x t := by
  unfold timelyS
  split
  · split <;> omega
  · split
    · omega
    · split <;> omega
theorem note_posA {un : Int} {s : Ks} {x : Nt} {r : Int} (h : noteS un s x = .inl r) : 0 < r := by
  unfold noteS at h
  split at h
  · simp only [Sum.inl.injEq] at h; omega
  split at h
  · rename_i r' hr
    simp only [Sum.inl.injEq] at h
    subst h
    exact toS_posA hr
  · unfold noteB noteC at h
    split at h
    · simp only [Sum.inl.injEq] at h; omega
    split at h
    · simp only [Sum.inl.injEq] at h; omega
    split at h
    · simp only [Sum.inl.injEq] at h; omega
    split at h
    · simp at h
    split at h
    · rename_i ht
      simp only [Sum.inl.injEq] at h
      subst h
      simp only [Bool.and_eq_true, bne_iff_ne] at ht
      have h0 := ht.2
      rename_i ps _ _ _ _ _ _ _ _
      have h1 := timely_vals (ps.getD x.p.toNat pr0) x ((s.1.getD x.p.toNat pt0).ts.getD x.t.toNat tk00)
      omega
    split at h
    · simp only [Sum.inl.injEq] at h; omega
    · simp at h
theorem run_posA {un : Int} : ∀ {l : List Nt} {j : Nat} {s : Ks} {r : Int × Nat}, runS un j s l = .inl r → 0 < r.1
  | [], j, s, r, h => by simp [runS] at h
  | x :: l, j, s, r, h => by
    simp only [runS] at h
    split at h
    · rename_i r' hr
      simp only [Sum.inl.injEq] at h
      subst h
      exact note_posA hr
    · exact run_posA h
theorem findT_ok {L : List Pt} {O : List Po} {l : List Nt} {un : Int} (hc : confC L O = true) (h0 : 0 ≤ un) (h1 : un ≤ 10000) : findT L O l un = if ((findS un (ks0 L) l).1 == 0) = true then (0, 0, 0) else ((findS un (ks0 L) l).1, (((findS un (ks0 L) l).2 : Nat) : Int), 0) := by
  have hl : (decide (un < 0) || decide (un > 10000)) = false := by simp; omega
  have hcn : ¬ (confC L O = false) := by rw [hc]; simp
  rw [findT, if_neg hcn, hl, if_neg (by simp)]
theorem ahead_eq {L : List Pt} {O : List Po} {M : List Nt} {n : Nat} (hn : n ≤ M.length) : (findT L O M 400).2.2 = (findT L O (M.take n) (upS (M.take n))).2.2 ∧
    ((findT L O M 400).2.2 = 0 → ((findT L O M 400).1 > 1 ∧ (findT L O M 400).2.1 < (n : Nat) ∧ (findT L O (M.take n) (upS (M.take n))).1 = (findT L O M 400).1 ∧ (findT L O (M.take n) (upS (M.take n))).2.1 = (findT L O M 400).2.1) ∨
      (¬ ((findT L O M 400).1 > 1 ∧ (findT L O M 400).2.1 < (n : Nat)) ∧ (((findT L O M 400).1 = 1 ∧ (findT L O M 400).2.1 < (n : Nat)) ∨ (findT L O (M.take n) (upS (M.take n))).1 = 0 ∨ (findT L O (M.take n) (upS (M.take n))).2.1 ≥ (n : Nat)))) := by
  cases hc : confC L O with
  | false =>
    have h1 : ∀ l un, findT L O l un = (0, 0, 50) := fun l un => by rw [findT, if_pos hc]
    rw [h1, h1]
    exact ⟨rfl, fun h => by simp at h⟩
  | true =>
    obtain ⟨⟨u0, u4⟩, hu⟩ := up_facts (M.take n) 0 (Int.le_refl _) (by omega)
    rw [findT_ok hc (by omega) (by omega), findT_ok (l := M.take n) (un := upS (M.take n)) hc u0 (by show upS (M.take n) ≤ 10000; have : upS (M.take n) ≤ 400 := u4; omega)]
    have hun : runS 400 0 (ks0 L) (M.take n) = runS (upS (M.take n)) 0 (ks0 L) (M.take n) := run_un hu
    have hlen : (M.take n).length = n := by rw [List.length_take]; omega
    have hM : runS 400 0 (ks0 L) M = match runS 400 0 (ks0 L) (M.take n) with | .inl r => .inl r | .inr s' => runS 400 (0 + (M.take n).length) s' (M.drop n) := by
      rw [← run_app, List.take_append_drop]
    rw [hun, hlen, Nat.zero_add] at hM
    generalize upS (M.take n) = U at *
    cases hr : runS U 0 (ks0 L) (M.take n) with
    | inl r =>
      rw [hr] at hM
      simp only at hM
      have hp := run_posA hr
      have hlt := (run_lt hr).2
      rw [hlen, Nat.zero_add] at hlt
      have e1 : findS 400 (ks0 L) M = r := by unfold findS; rw [hM]
      have e2 : findS U (ks0 L) (M.take n) = r := by unfold findS; rw [hr]
      have hz : ¬ ((r.1 == 0) = true) := by simp; omega
      rw [e1, e2, if_neg hz]
      refine ⟨rfl, fun _ => ?_⟩
      by_cases h1 : r.1 > 1
      · exact .inl ⟨h1, by show ((r.2 : Nat) : Int) < _; omega, rfl, rfl⟩
      · exact .inr ⟨fun h => h1 h.1, .inl ⟨by show r.1 = 1; omega, by show ((r.2 : Nat) : Int) < _; omega⟩⟩
    | inr st =>
      rw [hr] at hM
      simp only at hM
      have e2 : (findS U (ks0 L) (M.take n)).1 = 0 ∨ (findS U (ks0 L) (M.take n)).2 = n := by
        unfold findS
        rw [hr]
        simp only
        cases toS st.1.length (U - st.2.2.1).toNat st.2.1 st.2.2.1 st.2.2.2.1 st.2.2.2.2 with
        | inl q => exact .inr hlen
        | inr q => exact .inl rfl
      have e1 : (findS 400 (ks0 L) M).1 = 0 ∨ n ≤ (findS 400 (ks0 L) M).2 := by
        unfold findS
        rw [hM]
        cases hr2 : runS 400 n st (M.drop n) with
        | inl q => exact .inr (run_lt hr2).1
        | inr q =>
          simp only
          cases toS q.1.length (400 - q.2.2.1).toNat q.2.1 q.2.2.1 q.2.2.2.1 q.2.2.2.2 with
          | inl z => exact .inr hn
          | inr z => exact .inl rfl
      generalize findS U (ks0 L) (M.take n) = a at *
      generalize findS 400 (ks0 L) M = b at *
      have ha : ∀ a : Int × Nat, (if (a.1 == 0) = true then ((0 : Int), (0 : Int), (0 : Int)) else (a.1, ((a.2 : Nat) : Int), 0)).2.2 = 0 := fun a => by split <;> rfl
      refine ⟨by rw [ha, ha], fun _ => .inr ⟨?_, ?_⟩⟩
      · rintro ⟨h1, h2⟩
        by_cases hz : (b.1 == 0) = true
        · rw [if_pos hz] at h1
          simp at h1
        · rw [if_neg hz] at h2
          simp only at h2
          rcases e1 with e1 | e1
          · exact hz (by rw [e1]; rfl)
          · omega
      · refine .inr ?_
        by_cases hz : (a.1 == 0) = true
        · rw [if_pos hz]
          exact .inl rfl
        · rw [if_neg hz]
          rcases e2 with e2 | e2
          · exact absurd (by rw [e2]; rfl) hz
          · exact .inr (by show ((a.2 : Nat) : Int) ≥ _; omega)
theorem jup_l {k : Nat} {M : List Nt} {n : Nat} (hn : n ≤ M.length) (hM : M.length ≤ 17592186044416) {h : Heap} {B : Nat} {Q : AX → Env → Heap → Prop} {Y3 Y7 Y8 Y9 : AV}
    (hQ : ∀ e', AllAt e' [(1, .fz k (nts M)), (3, Y3), (7, Y7), (8, Y8), (9, Y9), (10, .int .i64 ((n : Nat) : Int)), (11, .int .i64 (upS (M.take n)))] → Q (.exit 0) e' h) :
    ∀ (m j : Nat) (env : Env), n - j = m → j ≤ n → AllAt env [(1, .fz k (nts M)), (3, Y3), (7, Y7), (8, Y8), (9, Y9), (10, .int .i64 ((n : Nat) : Int)), (11, .int .i64 (upS (M.take j))), (12, .int .i64 ((j : Nat) : Int))] →
    VC fs ms B false (.loop L_escapementlaw26_JudgeAhead_0) env h Q := by
  intro m
  induction m using Nat.strongRecOn with
  | ind m ih =>
  intro j env hm hj henv
  refine vc_slots 4 _ henv ?_
  refine vc_loopV (vc_seq true ?_)
  set_option smartUnfolding false in conv => whnf
  refine br (fun hc => ?_) (fun hc => ?_) <;> (try rw [hc]) <;> (set_option smartUnfolding false in conv => whnf)
  · have hlt : j < n := by have := of_decide_eq_true hc; omega
    have hltM : j < M.length := by omega
    refine vpC_sound (z := true) ?_
    set_option smartUnfolding false in conv => whnf
    refine ⟨_, idx_nt hltM, ?_⟩
    set_option smartUnfolding false in conv => whnf
    refine ⟨.int .i64 M[j].a, rfl, ?_⟩
    have hmx : ∀ a u : Int, (bif decide ((bif decide (400 < a) then (400 : Int) else a) > u) then (bif decide (400 < a) then (400 : Int) else a) else u) = max u (min a 400) := by
      intro a u
      by_cases h1 : 400 < a
      · rw [decide_eq_true h1, cond_true]
        by_cases h2 : (400 : Int) > u
        · rw [decide_eq_true h2, cond_true]; omega
        · rw [decide_eq_false h2, cond_false]; omega
      · rw [decide_eq_false h1, cond_false]
        by_cases h2 : a > u
        · rw [decide_eq_true h2, cond_true]; omega
        · rw [decide_eq_false h2, cond_false]; omega
    set_option smartUnfolding false in conv => whnf
    rw [hmx]
    exact ih (n - (j + 1)) (by omega) (j + 1) _ rfl (by omega) ⟨rfl, rfl, rfl, rfl, rfl, rfl, by rw [upS_next hltM]; rfl, inc_slot (by omega), trivial⟩
  · have hge : j = n := by have := of_decide_eq_false hc; omega
    subst hge
    exact hQ _ ⟨rfl, rfl, rfl, rfl, rfl, rfl, rfl, trivial⟩
theorem judgeAhead_c (k : Nat) (L : List Pt) (ko : Nat) (O : List Po) (kl : Nat) (l : List Nt) (at_ : Int) (hf : Fits L O) (hk : k = 3 → L = []) (hl : l.length * 64 ≤ 140737488355328) :
    PC fs ms f_escapementlaw26_JudgeAhead [cfg k L ko O, .fz kl (nts l), .int .i64 at_] (.bool true) := by
  refine pc_of (by simp [clL, cl_cfg, AV.cl, cl_nts]) rfl ?_
  generalize (⟨0, .nil⟩ : Heap) = h0
  refine vd_begin (af := C_escapementlaw26_JudgeAhead) rfl (Nat.le_of_ble_eq_true rfl) ?_
  generalize hQ : (fun (v : AV) (_ : Heap) => v = .bool true) = Q
  have hend : ∀ h, Q (.bool true) h := by subst hQ; intro h; rfl
  clear hQ
  set_option smartUnfolding false in conv => whnf
  refine vc_seq true ?_
  set_option smartUnfolding false in conv => whnf
  have g1 : (h0.new (.cells (cfg k L ko O).cells true 0)).get h0.next = some (.cells [.fz k (pts L), .fz ko (pos O)] true 0) := get_new_same
  generalize h0.new (.cells (cfg k L ko O).cells true 0) = h1 at *
  generalize h0.next = p3 at *
  have hfz : Frz (· ∈ [p3]) h1 (.ptr p3 0) (.fp [.fz k (pts L), .fz ko (pos O)] 0) := .ptr' (by simp) g1 (.clean (by simp [clL, AV.cl, cl_pts, cl_pos]))
  refine vc_frz [p3] (i := 3) rfl hfz ?_
  generalize delAll [p3] h1 = h2
  clear g1 hfz
  refine vc_slots 4 [(1, .fz kl (nts l)), (2, .int .i64 at_), (3, .fp [.fz k (pts L), .fz ko (pos O)] 0)] ⟨rfl, rfl, rfl, trivial⟩ ?_
  obtain ⟨n0, hn0, hn1⟩ : ∃ n : Nat, (bif decide ((200 : Int) < ((l.length : Nat) : Int)) then (200 : Int) else ((l.length : Nat) : Int)) = ((n : Nat) : Int) ∧ n ≤ l.length := by
    by_cases h : 200 < l.length
    · exact ⟨200, by rw [decide_eq_true (by omega)]; rfl, by omega⟩
    · exact ⟨l.length, by rw [decide_eq_false (by omega)]; rfl, Nat.le_refl _⟩
  refine vc_seq true ?_
  set_option smartUnfolding false in conv => whnf
  rw [len_nts]
  rw [hn0]
  refine ⟨_, cutA_nts hn1, ?_⟩
  set_option smartUnfolding false in conv => whnf
  have hM : (l.take n0).length ≤ 17592186044416 := by rw [List.length_take]; omega
  generalize l.take n0 = M at *
  generalize sliceKind kl false n0 l.length l.length = k1 at *
  have hj := jfind_c (k := k) (ko := ko) (kl := k1) hf hk hM 400
  refine vc_seq true ?_
  set_option smartUnfolding false in conv => whnf
  refine ⟨cfg k L ko O, rfl, ?_⟩
  set_option smartUnfolding false in conv => whnf
  refine vd_pure hj ?_
  set_option smartUnfolding false in conv => whnf
  obtain ⟨n, hn, hnM⟩ : ∃ n : Nat, bring at_ ((M.length : Nat) + 1) = ((n : Nat) : Int) ∧ n ≤ M.length := by
    have h1 := Int.emod_nonneg at_ (show ((M.length : Nat) : Int) + 1 ≠ 0 by omega)
    have h2 := Int.emod_lt_of_pos at_ (show (0 : Int) < ((M.length : Nat) : Int) + 1 by omega)
    exact ⟨(bring at_ ((M.length : Nat) + 1)).toNat, by show _ = ((at_ % _).toNat : Int); unfold bring; omega, by unfold bring; omega⟩
  have hb := bring_c at_ ((M.length : Nat) + 1) (by omega) (by omega)
  rw [hn] at hb
  refine vc_seq true ?_
  set_option smartUnfolding false in conv => whnf
  rw [len_nts, show IntKind.i64.wrap (((M.length : Nat) : Int) + 1) = ((M.length : Nat) : Int) + 1 from IntWalk.i64_in _ (by omega)]
  refine vd_pure hb ?_
  set_option smartUnfolding false in conv => whnf
  refine vc_seq true ?_
  set_option smartUnfolding false in conv => whnf
  refine vc_seqV (vc_seq true ?_)
  set_option smartUnfolding false in conv => whnf
  refine vc_block ?_
  have hA := ahead_eq (L := L) (O := O) hnM
  refine jup_l (k := k1) (M := M) (n := n) hnM hM (Y3 := .fp [.fz k (pts L), .fz ko (pos O)] 0) (Y7 := .int .i64 (findT L O M 400).1) (Y8 := .int .i64 (findT L O M 400).2.1) (Y9 := .int .i64 (findT L O M 400).2.2) (fun e' he => ?_) n 0 _ rfl (Nat.zero_le _) ⟨rfl, rfl, rfl, rfl, rfl, rfl, rfl, rfl, trivial⟩
  have hj2 := jfind_c (k := k) (ko := ko) (kl := sliceKind k1 false n M.length M.length) (L := L) (O := O) (l := M.take n) hf hk (by rw [List.length_take]; omega) (upS (M.take n))
  generalize findT L O (M.take n) (upS (M.take n)) = s at *
  generalize findT L O M 400 = r at *
  obtain ⟨r1, r2, r3⟩ := r
  obtain ⟨s1, s2, s3⟩ := s
  simp only at hA hj2
  obtain ⟨hA1, hA2⟩ := hA
  subst hA1
  show VC fs ms _ _ _ _ _ _
  refine vc_slots 4 _ he ?_
  clear he hj
  refine vc_seq true ?_
  set_option smartUnfolding false in conv => whnf
  refine ⟨cfg k L ko O, rfl, ?_⟩
  set_option smartUnfolding false in conv => whnf
  refine ⟨_, cutA_nts hnM, ?_⟩
  set_option smartUnfolding false in conv => whnf
  refine vd_pure hj2 ?_
  set_option smartUnfolding false in conv => whnf
  refine vc_seqV (VC.mono (Q := fun y e h => h = h2 ∧ ((y = .ret ∧ Tr.get e 6 = some (.bool true)) ∨ (y = .normal ∧ r3 = 0 ∧ AllAt e [(7, .int .i64 r1), (8, .int .i64 r2), (10, .int .i64 ((n : Nat) : Int)), (13, .int .i64 s1), (14, .int .i64 s2)]))) ?_ ?_)
  · have hbb : ∀ a : Int, (a == a) = true := fun a => by simp
    refine vpC_sound (z := true) ?_
    set_option smartUnfolding false in conv => whnf
    refine br (fun hc => ?_) (fun hc => ?_) <;> (try rw [hc]) <;> (set_option smartUnfolding false in conv => whnf)
    · refine brt (hbb _) (fun hc => ?_)
      (try rw [hc])
      set_option smartUnfolding false in conv => whnf
      refine vd_pure works26_c ?_
      set_option smartUnfolding false in conv => whnf
      exact ⟨rfl, .inl ⟨rfl, rfl⟩⟩
    · refine br (fun hc => ?_) (fun hc => ?_) <;> (try rw [hc]) <;> (set_option smartUnfolding false in conv => whnf)
      · refine brt (hbb _) (fun hc => ?_)
        (try rw [hc])
        set_option smartUnfolding false in conv => whnf
        refine vd_pure works26_c ?_
        set_option smartUnfolding false in conv => whnf
        exact ⟨rfl, .inl ⟨rfl, rfl⟩⟩
      · exact ⟨rfl, .inr ⟨rfl, by simpa using hc, rfl, rfl, rfl, rfl, rfl, trivial⟩⟩
  rintro y e h ⟨rfl, ⟨rfl, g6⟩ | ⟨rfl, h3, he⟩⟩
  · exact endV_one g6 (hend _)
  have hA := hA2 h3
  show VC fs ms _ _ _ _ _ _
  refine vc_slots 4 _ he ?_
  clear he
  rcases hA with ⟨a1, a2, a3, a4⟩ | ⟨a1, a2⟩
  · have c1 : decide (r1 > 1) = true := decide_eq_true a1
    have c2 : decide (r2 < ((n : Nat) : Int)) = true := decide_eq_true a2
    have c3 : (s1 == r1) = true := by simpa using a3
    have c4 : (s2 == r2) = true := by simpa using a4
    refine vpC_sound (z := true) ?_
    set_option smartUnfolding false in conv => whnf
    refine brt (c1) (fun hc => ?_)
    (try rw [hc])
    set_option smartUnfolding false in conv => whnf
    refine brt (c2) (fun hc => ?_)
    (try rw [hc])
    set_option smartUnfolding false in conv => whnf
    refine brt (c3) (fun hc => ?_)
    (try rw [hc])
    set_option smartUnfolding false in conv => whnf
    refine brt (c4) (fun hc => ?_)
    (try rw [hc])
    set_option smartUnfolding false in conv => whnf
    refine vd_pure works26_c ?_
    set_option smartUnfolding false in conv => whnf
    exact hend _
  · refine vc_seqV (VC.mono (Q := fun y e h' => h' = h ∧ y = .normal ∧ AllAt e [(7, .int .i64 r1), (8, .int .i64 r2), (10, .int .i64 ((n : Nat) : Int)), (13, .int .i64 s1), (14, .int .i64 s2)]) ?_ ?_)
    · refine vpC_sound (z := true) ?_
      set_option smartUnfolding false in conv => whnf
      refine br (fun hc => ?_) (fun hc => ?_) <;> (try rw [hc]) <;> (set_option smartUnfolding false in conv => whnf)
      · have h1 := of_decide_eq_true hc
        refine brf (by simpa using fun h2 => a1 ⟨h1, h2⟩) (fun hc => ?_)
        (try rw [hc])
        set_option smartUnfolding false in conv => whnf
        exact ⟨rfl, rfl, rfl, rfl, rfl, rfl, rfl, trivial⟩
      · exact ⟨rfl, rfl, rfl, rfl, rfl, rfl, rfl, trivial⟩
    rintro y e h' ⟨rfl, rfl, he⟩
    show VC fs ms _ _ _ _ _ _
    refine vc_slots 4 _ he (vpC_sound (z := true) ?_)
    clear he
    have hfin : (((r1 == 1) && decide (r2 < ((n : Nat) : Int))) || ((s1 == 0) || decide (s2 ≥ ((n : Nat) : Int)))) = true := by
      rcases a2 with ⟨b1, b2⟩ | b | b
      · rw [b1, decide_eq_true b2]; rfl
      · rw [b]; simp
      · rw [decide_eq_true b]; simp
    set_option smartUnfolding false in conv => whnf
    iterate 5 (all_goals (first | (refine vd_pure works26_c ?_; set_option smartUnfolding false in conv => whnf) | (refine br (fun hc => ?_) (fun hc => ?_) <;> (try rw [hc]) <;> (set_option smartUnfolding false in conv => whnf)) | skip))
    all_goals (first | exact hend _ | (exfalso; simp only [*] at hfin; simp at hfin; done))
end Ir
end Go.Proofs.Ytepdklcpagielaa
