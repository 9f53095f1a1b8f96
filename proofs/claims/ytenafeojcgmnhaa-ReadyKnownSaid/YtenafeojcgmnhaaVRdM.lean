/-
  Ready: the document's Jobs.
-/
import Derived.Test.YtenafeojcgmnhaaVRdL
set_option maxRecDepth 100000
set_option linter.unusedSimpArgs false
set_option linter.unusedVariables false
namespace Go.Proofs.Ytenafeojcgmnhaa
open Go Ads
namespace Ads
/-- Several more behind a row that is full. -/
theorem app_fullN {h : Heap} {s bytes b m n : Nat} {vs cs : List AV} {x : AV} (hg : h.get b = some (.cells vs true s)) (hv : vs.length = m * s) (hsrc : srcV s h x = some (n + 1, cs)) (hf : flatL cs = true) (hb : bytes ≤ 1048576) (hm : m + n ≤ 1048576) :
    eV (.append s bytes) [.sl b 0 m m true, x] h = some (.sl h.next 0 (m + (n + 1)) (m + (n + 1)) true, (h.del b).new (.cells (vs ++ cs) true s)) := by
  have hmu : (m + (n + 1)) * bytes ≤ 1048577 * 1048576 := Nat.mul_le_mul (by omega) hb
  have b1 : Nat.ble (m + (n + 1)) m = false := by
    cases hb : Nat.ble (m + (n + 1)) m with
    | false => rfl
    | true => have := Nat.le_of_ble_eq_true hb; omega
  have b2 : Nat.ble ((m + (n + 1)) * bytes) 140737488355328 = true := Nat.ble_eq_true_of_le (by omega)
  have b3 : Nat.ble (m + (n + 1)) 9223372036854775807 = true := Nat.ble_eq_true_of_le (by omega)
  have b4 : Nat.ble (0 + m * s) vs.length = true := Nat.ble_eq_true_of_le (by omega)
  have b5 : Nat.beq vs.length (0 + m * s) = true := by rw [hv, Nat.zero_add]; exact Nat.beq_refl _
  have hld : h.loadN b 0 (m * s) = some vs := by
    simp only [Heap.loadN, Heap.row, hg, b4, cond_true, List.drop_zero]
    rw [← hv, List.take_length]
  simp only [eV, l2, hsrc]
  show cond (flatL cs) _ _ = _
  rw [hf, cond_true]
  show cond (Nat.beq (n + 1) 0 && Nat.ble m m) _ _ = _
  rw [show Nat.beq (n + 1) 0 = false from rfl, Bool.false_and, cond_false, b1, cond_false, b2, b3, Bool.and_self, cond_true, hg, hld]
  show cond true (cond (true && Nat.beq vs.length (0 + m * s) && Nat.beq m m && Nat.beq s s) _ _) _ = _
  rw [b5, Nat.beq_refl, Nat.beq_refl]
  rfl
theorem app_none {h : Heap} {s bytes b m : Nat} {x : AV} {cs : List AV} (hsrc : srcV s h x = some (0, cs)) (hf : flatL cs = true) : eV (.append s bytes) [.sl b 0 m m true, x] h = some (.sl b 0 m m true, h) := by
  simp only [eV, l2, hsrc]
  show cond (flatL cs) _ _ = _
  rw [hf, cond_true]
  show cond (Nat.beq 0 0 && Nat.ble m m) _ _ = _
  rw [Nat.ble_eq_true_of_le (Nat.le_refl m)]
  rfl
theorem src_at {h : Heap} {b o s n cap : Nat} {op wr : Bool} {es : Nat} {vs : List AV} (hg : h.get b = some (.cells vs wr es)) (hl : o + n * s ≤ vs.length) : srcV s h (.sl b o n cap op) = some (n, (vs.drop o).take (n * s)) := by
  have b1 : Nat.ble (o + n * s) vs.length = true := Nat.ble_eq_true_of_le hl
  show (h.loadN b o (n * s)).map _ = _
  simp only [Heap.loadN, Heap.row, hg, b1, cond_true]
  rfl
end Ads
namespace Ir

/-- How many at the beginning. -/
def cutK (p : Nat → Bool) : List Nat → Nat
  | [] => 0
  | x :: l => if p x then cutK p l + 1 else 0
theorem cutK_le (p : Nat → Bool) : ∀ l, cutK p l ≤ l.length
  | [] => Nat.le_refl _
  | x :: l => by
    have := cutK_le p l
    unfold cutK
    split
    · simp; omega
    · simp
theorem cutK_in (p : Nat → Bool) : ∀ l j, j < cutK p l → p (l.getD j 0) = true
  | [], j, h => by simp [cutK] at h
  | x :: l, j, h => by
    unfold cutK at h
    split at h
    · rename_i hp
      cases j with
      | zero => exact hp
      | succ j => exact cutK_in p l j (by omega)
    · omega
theorem cutK_at (p : Nat → Bool) : ∀ l, cutK p l < l.length → p (l.getD (cutK p l) 0) = false
  | [], h => by simp at h
  | x :: l, h => by
    unfold cutK at h ⊢
    split
    · rename_i hp
      rw [if_pos hp] at h
      exact cutK_at p l (by simpa using h)
    · rename_i hp
      simpa using hp
def leD (D : List Int) (i : Nat) (x : Nat) : Bool := decide (gD D x ≤ gD D i)
/-- What the document's Jobs come to behind the first tasks. -/
def dj (D : List Int) : Nat → List Nat
  | 0 => []
  | i + 1 => if gD D i < 0 then dj D i else (dj D i).take (cutK (leD D i) (dj D i)) ++ [i] ++ (dj D i).drop (cutK (leD D i) (dj D i))
theorem dj_len (D : List Int) : ∀ i, (dj D i).length ≤ i
  | 0 => Nat.le_refl _
  | i + 1 => by
    have := dj_len D i
    have := cutK_le (leD D i) (dj D i)
    unfold dj
    split
    · omega
    · simp only [List.length_append, List.length_take, List.length_drop, List.length_singleton]
      omega
theorem dj_lt (D : List Int) : ∀ i, ∀ x ∈ dj D i, x < i
  | 0, x, h => by simp [dj] at h
  | i + 1, x, h => by
    unfold dj at h
    split at h
    · have := dj_lt D i x h; omega
    · simp only [List.mem_append, List.mem_singleton] at h
      rcases h with (h | h) | h
      · have := dj_lt D i x (List.mem_of_mem_take h); omega
      · omega
      · have := dj_lt D i x (List.mem_of_mem_drop h); omega
def nl (l : List Nat) : List Int := l.map fun x : Nat => (x : Int)
theorem nl_len (l : List Nat) : (nl l).length = l.length := by simp [nl]
theorem nl_get (l : List Nat) (i : Nat) : (nl l).getD i 0 = ((l.getD i 0 : Nat) : Int) := by
  simp only [nl, List.getD_eq_getElem?_getD, List.getElem?_map]
  cases l[i]? <;> rfl

theorem jobs_in {m b es i : Nat} {op : Bool} {D : List Int} {h : Heap} {lo : Nat} {v : AV} {l : List Nat} {B : Nat} {Q : AX → Env → Heap → Prop} (hh : MAt h m b es op D) (hv : IRow lo h v (nl l)) (hl : ∀ x ∈ l, x < D.length) (hi : i < D.length) (hN : l.length ≤ 1000)
    (hQ : ∀ e', Tr.get e' 0 = some (.ptr m 0) → Tr.get e' 3 = some v → Tr.get e' 4 = some (.int .i64 ((i : Nat) : Int)) → Tr.get e' 5 = some (.int .i64 ((cutK (leD D i) l : Nat) : Int)) → Q (.exit 2) e' h) :
    ∀ (n k : Nat) (env : Env), cutK (leD D i) l - k = n → k ≤ cutK (leD D i) l → AllAt env [(0, .ptr m 0), (3, v), (4, .int .i64 ((i : Nat) : Int)), (5, .int .i64 ((k : Nat) : Int))] →
    VC fs ms B false (.loop L_escapementref15_Queue_Jobs_1) env h Q := by
  have hcl := cutK_le (leD D i) l
  intro n
  induction n using Nat.strongRecOn with
  | ind n ih =>
  intro k env hn hk henv
  refine vc_slots 3 [(0, .ptr m 0), (3, v), (4, .int .i64 ((i : Nat) : Int)), (5, .int .i64 ((k : Nat) : Int))] henv ?_
  refine vc_loop (z := true) ?_
  set_option smartUnfolding false in conv => whnf
  refine op_some hv.read.1 ?_
  set_option smartUnfolding false in conv => whnf
  rw [nl_len]
  refine br (fun hc => ?_) (fun hc => ?_) <;> (try rw [hc]) <;> (set_option smartUnfolding false in conv => whnf)
  · have hlt : k < l.length := by have := of_decide_eq_true hc; omega
    refine ⟨_, hh.row, ?_⟩
    set_option smartUnfolding false in conv => whnf
    obtain ⟨b', r1, r2⟩ := hv.read.2 k (by rw [nl_len]; exact hlt)
    rw [nl_get] at r2
    have hx : l.getD k 0 < D.length := by
      rw [List.getD_eq_getElem?_getD, List.getElem?_eq_getElem hlt]
      exact hl _ (List.getElem_mem hlt)
    refine ⟨_, r1, ?_⟩
    set_option smartUnfolding false in conv => whnf
    refine ⟨_, r2, ?_⟩
    set_option smartUnfolding false in conv => whnf
    refine ⟨_, idx_slS3 hx, ?_⟩
    set_option smartUnfolding false in conv => whnf
    refine ⟨_, hh.get hx, ?_⟩
    set_option smartUnfolding false in conv => whnf
    refine ⟨_, hh.row, ?_⟩
    set_option smartUnfolding false in conv => whnf
    refine ⟨_, idx_slS3 hi, ?_⟩
    set_option smartUnfolding false in conv => whnf
    refine ⟨_, hh.get hi, ?_⟩
    set_option smartUnfolding false in conv => whnf
    by_cases hck : k < cutK (leD D i) l
    · have hp := cutK_in (leD D i) l k hck
      refine brt (hp) (fun hc => ?_)
      (try rw [hc])
      set_option smartUnfolding false in conv => whnf
      exact ih (cutK (leD D i) l - (k + 1)) (by omega) (k + 1) _ rfl (by omega) ⟨rfl, rfl, rfl, inc_slot (by omega), trivial⟩
    · have hke : k = cutK (leD D i) l := by omega
      have hp := cutK_at (leD D i) l (by omega)
      rw [← hke] at hp
      refine brf (hp) (fun hc => ?_)
      (try rw [hc])
      set_option smartUnfolding false in conv => whnf
      exact hQ _ rfl rfl rfl (by rw [← hke]; rfl)
  · have hge : l.length ≤ k := by have := of_decide_eq_false hc; omega
    have hke : k = cutK (leD D i) l := by omega
    exact hQ _ rfl rfl rfl (by rw [← hke]; rfl)

/-- A row's beginning, copied. -/
theorem IRow.pre {lo : Nat} {h : Heap} {v : AV} {l : List Int} (hr : IRow lo h v l) (hl : l.length ≤ 1000) {k : Nat} (hk : k ≤ l.length) :
    ∃ s1, pV (.slice 1 false true false) [v, .int .i64 ((k : Nat) : Int)] = some s1 ∧ ∃ v1 g1, eV (.append 1 8) [.nils, s1] h = some (v1, g1) ∧ IRow h.next g1 v1 (l.take k) ∧ Fr h g1 [] := by
  rcases hr with ⟨rfl, rfl⟩ | ⟨b, h1, h2, rfl, h4⟩
  · have : k = 0 := by simpa using hk
    subst this
    exact ⟨.nils, rfl, .nils, h, rfl, .inl ⟨rfl, rfl⟩, Fr.refl _ _⟩
  · refine ⟨_, pre_sl hk, ?_⟩
    have hsrc : srcV 1 h (.sl b 0 k l.length true) = some (k, ((ints l).drop 0).take (k * 1)) := src_at h4 (by rw [len_ints]; omega)
    rw [List.drop_zero, Nat.mul_one, ints, ← List.map_take] at hsrc
    cases k with
    | zero => exact ⟨.nils, h, app_nils0 (nx := h.next) (tr := h.m) hsrc rfl, .inl ⟨rfl, rfl⟩, Fr.refl _ _⟩
    | succ k =>
      have hlt : (l.take (k + 1)).length = k + 1 := by rw [List.length_take]; omega
      refine ⟨_, _, app_nilsN (nx := h.next) (tr := h.m) (by omega) (by omega) hsrc (flatL_ints (l.take (k + 1))), .inr ⟨h.next, Nat.le_refl _, Nat.lt_succ_self _, by rw [hlt], get_new_same⟩, (Fr.refl h []).new⟩
/-- A row's end, behind another row. -/
theorem IRow.post {lo lo2 : Nat} {h : Heap} {v v2 : AV} {l l2 : List Int} (hr : IRow lo h v l) (hr2 : IRow lo2 h v2 l2) (hne : 0 < l2.length) (hl : l.length ≤ 1000) (hl2 : l2.length ≤ 1000) (hlo : lo2 ≤ h.next) {k : Nat} (hk : k ≤ l.length) :
    ∃ s1, pV (.slice 1 true false false) [v, .int .i64 ((k : Nat) : Int)] = some s1 ∧ ∃ v3 g3, eV (.append 1 8) [v2, s1] h = some (v3, g3) ∧ IRow lo2 g3 v3 (l2 ++ l.drop k) ∧ h.next ≤ g3.next ∧ ∀ c, c < lo2 → c < h.next → g3.get c = h.get c := by
  rcases hr2 with ⟨rfl, _⟩ | ⟨b2, g1, g2, rfl, g4⟩
  · simp at hne
  have hsame : ∀ {s1}, srcV 1 h s1 = some (0, []) → l.drop k = [] → ∃ v3 g3, eV (.append 1 8) [.sl b2 0 l2.length l2.length true, s1] h = some (v3, g3) ∧ IRow lo2 g3 v3 (l2 ++ l.drop k) ∧ h.next ≤ g3.next ∧ ∀ c, c < lo2 → c < h.next → g3.get c = h.get c := by
    intro s1 hs hd
    rw [hd, List.append_nil]
    exact ⟨_, _, app_none hs rfl, .inr ⟨b2, g1, g2, rfl, g4⟩, Nat.le_refl _, fun c _ _ => rfl⟩
  rcases hr with ⟨rfl, rfl⟩ | ⟨b, h1, h2, rfl, h4⟩
  · have : k = 0 := by simpa using hk
    subst this
    exact ⟨.nils, rfl, hsame rfl rfl⟩
  · have bk : Nat.ble k l.length = true := Nat.ble_eq_true_of_le hk
    have b3 : bounds l.length l.length true false false [.int .i64 ((k : Nat) : Int)] = some (k, l.length, l.length) := by
      show cond (Nat.ble k l.length && Nat.ble l.length l.length && Nat.ble l.length l.length) (some (k, l.length, l.length)) none = _
      rw [bk, Nat.ble_eq_true_of_le (Nat.le_refl l.length)]
      rfl
    have hpv : pV (.slice 1 true false false) [.sl b 0 l.length l.length true, .int .i64 ((k : Nat) : Int)] = cond (Nat.beq l.length k && Nat.beq l.length l.length && (true && !Nat.beq k 0)) (some (.rest b 0 (k * 1))) (some (.sl b (0 + cond (Nat.beq l.length k) 0 (k * 1)) (l.length - k) (l.length - k) true)) := by
      show sliceF 1 true false false (.sl b 0 l.length l.length true) [.int .i64 ((k : Nat) : Int)] = _
      simp only [sliceF, dSl, b3]
      rfl
    by_cases hkn : k = l.length
    · subst hkn
      have hd : l.drop l.length = [] := List.drop_length
      by_cases h0 : l.length = 0
      · refine ⟨.sl b 0 0 0 true, ?_, hsame ?_ hd⟩
        · rw [hpv, h0]; rfl
        · have := src_at (s := 1) (o := 0) (n := 0) (cap := 0) (op := true) h4 (by omega)
          rw [Nat.zero_mul, List.take_zero] at this
          exact this
      · refine ⟨.rest b 0 (l.length * 1), ?_, hsame rfl hd⟩
        have hz : Nat.beq l.length 0 = false := by
          cases hb : Nat.beq l.length 0 with
          | false => rfl
          | true => exact absurd (Nat.eq_of_beq_eq_true hb) h0
        rw [hpv, Nat.beq_refl, hz]
        rfl
    · have hz : Nat.beq l.length k = false := by
        cases hb : Nat.beq l.length k with
        | false => rfl
        | true => exact absurd (Nat.eq_of_beq_eq_true hb).symm hkn
      obtain ⟨n, hn⟩ : ∃ n, l.length - k = n + 1 := ⟨l.length - k - 1, by omega⟩
      refine ⟨.sl b k (n + 1) (n + 1) true, ?_, ?_⟩
      · rw [hpv, hz, hn]
        show some (AV.sl b (0 + k * 1) (n + 1) (n + 1) true) = _
        rw [Nat.zero_add, Nat.mul_one]
      · have hsrc : srcV 1 h (.sl b k (n + 1) (n + 1) true) = some (n + 1, ((ints l).drop k).take ((n + 1) * 1)) := src_at h4 (by rw [len_ints]; omega)
        have hdl : (l.drop k).length = n + 1 := by rw [List.length_drop]; omega
        rw [Nat.mul_one, ints, ← List.map_drop, ← List.map_take, List.take_of_length_le (by omega)] at hsrc
        have hall : ints l2 ++ ints (l.drop k) = ints (l2 ++ l.drop k) := by simp [ints]
        refine ⟨_, _, app_fullN g4 (by rw [len_ints, Nat.mul_one]) hsrc (flatL_ints (l.drop k)) (by omega) (by omega), .inr ⟨h.next, hlo, Nat.lt_succ_self _, by rw [List.length_append, hdl], ?_⟩, Nat.le_succ _, fun c hc hcn => ?_⟩
        · rw [← hall]
          exact get_new_same (h := h.del b2)
        · exact (get_new_ne (h := h.del b2) hcn).trans (get_del_ne (by omega))

theorem jobs_loop {m b es : Nat} {op : Bool} {D : List Int} {h0 : Heap} {B : Nat} {Q : AX → Env → Heap → Prop} (hD : D.length ≤ 4) (hm : m < h0.next) (hb : b < h0.next) :
    ∀ (n i : Nat) (h : Heap) (v : AV) (env : Env), D.length - i = n → i ≤ D.length → MAt h m b es op D → IRow h0.next h v (nl (dj D i)) → Fr h0 h [] → AllAt env [(0, .ptr m 0), (3, v), (4, .int .i64 ((i : Nat) : Int))] →
    (∀ (h' : Heap) (v' : AV) (e' : Env), Tr.get e' 3 = some v' → IRow h0.next h' v' (nl (dj D D.length)) → Fr h0 h' [] → Q (.exit 0) e' h') →
    VC fs ms B false (.loop L_escapementref15_Queue_Jobs_0) env h Q := by
  intro n
  induction n using Nat.strongRecOn with
  | ind n ih =>
  intro i h v env hn hi hh hv fr0 henv hQ
  refine vc_slots 3 [(0, .ptr m 0), (3, v), (4, .int .i64 ((i : Nat) : Int))] henv ?_
  refine vc_loopV (vc_seq true ?_)
  set_option smartUnfolding false in conv => whnf
  refine ⟨_, hh.row, ?_⟩
  set_option smartUnfolding false in conv => whnf
  refine br (fun hc => ?_) (fun hc => ?_) <;> (try rw [hc]) <;> (set_option smartUnfolding false in conv => whnf)
  · have hlt : i < D.length := by have := of_decide_eq_true hc; omega
    have hdl := dj_len D i
    have hdx := dj_lt D i
    refine vc_seqV (vc_block ?_)
    refine vc_seq true ?_
    set_option smartUnfolding false in conv => whnf
    refine has_o hh _ ?_
    set_option smartUnfolding false in conv => whnf
    have hhas : hasD D (i : Int) = decide (0 ≤ gD D i) := by
      rw [hasD, decide_eq_true (show (0 : Int) ≤ (i : Int) by omega), decide_eq_true (show (i : Int) < (D.length : Int) by omega), Bool.true_and, Bool.true_and, Int.toNat_natCast]
    rw [hhas]
    by_cases hneg : gD D i < 0
    · refine brt (by rw [decide_eq_false (by omega)]; rfl) (fun hc => ?_)
      (try rw [hc])
      set_option smartUnfolding false in conv => whnf
      show VC fs ms _ _ _ _ _ _
      refine vc_slots 3 [(0, .ptr m 0), (3, v), (4, .int .i64 ((i : Nat) : Int))] ⟨rfl, rfl, rfl, trivial⟩ (vpC_sound (z := true) ?_)
      set_option smartUnfolding false in conv => whnf
      refine ih (D.length - (i + 1)) (by omega) (i + 1) h v _ rfl (by omega) hh (by unfold dj; rw [if_pos hneg]; exact hv) fr0 ⟨rfl, rfl, inc_slot (by omega), trivial⟩ hQ
    · refine brf (by rw [decide_eq_true (by omega)]; rfl) (fun hc => ?_)
      (try rw [hc])
      set_option smartUnfolding false in conv => whnf
      refine vc_seq true ?_
      set_option smartUnfolding false in conv => whnf
      refine vc_seqV (vc_block ?_)
      refine jobs_in hh hv (fun x hx => by have := hdx x hx; omega) hlt (by omega) ?_ _ 0 _ rfl (Nat.zero_le _) ⟨rfl, rfl, rfl, rfl, trivial⟩
      intro e1 g0 g3 g4 g5
      show VC fs ms _ _ _ _ _ _
      have hck := cutK_le (leD D i) (dj D i)
      generalize hK : cutK (leD D i) (dj D i) = K at *
      refine vc_slots 3 [(0, .ptr m 0), (3, v), (4, .int .i64 ((i : Nat) : Int)), (5, .int .i64 ((K : Nat) : Int))] ⟨g0, g3, g4, g5, trivial⟩ ?_
      refine vc_seq true ?_
      set_option smartUnfolding false in conv => whnf
      refine vc_seq true ?_
      set_option smartUnfolding false in conv => whnf
      obtain ⟨s1, p1, v1, h1, p2, p3, p4⟩ := hv.pre (by rw [nl_len]; omega) (k := K) (by rw [nl_len]; exact hck)
      refine ⟨_, p1, ?_⟩
      set_option smartUnfolding false in conv => whnf
      refine eff_o p2 fun h1' e1' => ?_
      subst e1'
      set_option smartUnfolding false in conv => whnf
      refine vc_seq true ?_
      set_option smartUnfolding false in conv => whnf
      have l0 := fr0.next
      have l1 := p4.next
      have ltk : ((nl (dj D i)).take K).length ≤ 4 := by rw [List.length_take, nl_len]; omega
      obtain ⟨v2, h2, a1, a2, a3, a4, a5⟩ := p3.app l1 (by omega) ((i : Nat) : Int)
      refine eff_o a1 fun h2' e2' => ?_
      subst e2'
      set_option smartUnfolding false in conv => whnf
      refine vpC_sound (z := true) ?_
      set_option smartUnfolding false in conv => whnf
      have off1 : ∀ c, c < h.next → offB v1 c := by
        intro c hc
        rcases p3 with ⟨_, rfl⟩ | ⟨b', q1, _, rfl, _⟩
        · intro o n k op e; cases e
        · intro o n k op e; cases e; omega
      have fr2 : Fr h h2' [] := ⟨by omega, fun c hc _ => by rw [a4 c (by omega) (off1 c hc)]; exact p4.keep c hc (by simp)⟩
      have hv2 := hv.keep fr2
      obtain ⟨s3, c1, v3, h3, c2, c3, c4, c5⟩ := hv2.post a2 (by simp) (by rw [nl_len]; omega) (by rw [List.length_append]; simp; omega) (by omega) (k := K) (by rw [nl_len]; exact hck)
      refine ⟨_, c1, ?_⟩
      set_option smartUnfolding false in conv => whnf
      refine eff_o c2 fun h3' e3' => ?_
      subst e3'
      set_option smartUnfolding false in conv => whnf
      have fr3 : Fr h h3' [] := ⟨by omega, fun c hc _ => by rw [c5 c hc (by omega)]; exact fr2.keep c hc (by simp)⟩
      show VC fs ms _ _ _ _ _ _
      refine vc_slots 3 [(0, .ptr m 0), (3, v3), (4, .int .i64 ((i : Nat) : Int))] ⟨rfl, rfl, rfl, trivial⟩ (vpC_sound (z := true) ?_)
      set_option smartUnfolding false in conv => whnf
      have hdj : nl (dj D (i + 1)) = (nl (dj D i)).take K ++ [((i : Nat) : Int)] ++ (nl (dj D i)).drop K := by
        rw [show dj D (i + 1) = (dj D i).take K ++ [i] ++ (dj D i).drop K by rw [dj, if_neg hneg, hK]]
        simp [nl]
      refine ih (D.length - (i + 1)) (by omega) (i + 1) h3' v3 _ rfl (by omega) (hh.keep fr3 (by simp) (by simp)) ?_ (fr0.trans fr3) ⟨rfl, rfl, inc_slot (by omega), trivial⟩ hQ
      rw [hdj]
      rcases c3 with ⟨x1, x2⟩ | ⟨b', x1, x2, x3, x4⟩
      · exact .inl ⟨x1, x2⟩
      · exact .inr ⟨b', by omega, x2, x3, x4⟩
  · have hge : i = D.length := by have := of_decide_eq_false hc; omega
    subst hge
    exact hQ h v _ rfl hv fr0
theorem mjobs_o {h : Heap} {m b es : Nat} {op : Bool} {D : List Int} (hh : MAt h m b es op D) (hD : D.length ≤ 4) {Q : AV → Heap → Prop} (hQ : ∀ h' v, IRow h.next h' v (nl (dj D D.length)) → Fr h h' [] → Q v h') : VD fs ms f_escapementref15_Queue_Jobs [.ptr m 0] h Q := by
  refine vd_begin (af := C_escapementref15_Queue_Jobs) rfl (Nat.le_of_ble_eq_true rfl) ?_
  set_option smartUnfolding false in conv => whnf
  refine vc_seq true ?_
  set_option smartUnfolding false in conv => whnf
  refine vc_seq true ?_
  set_option smartUnfolding false in conv => whnf
  refine vc_seqV (vc_seq true ?_)
  set_option smartUnfolding false in conv => whnf
  refine vc_block ?_
  refine jobs_loop hD hh.lm hh.lb _ 0 h .nils _ rfl (Nat.zero_le _) hh (.inl ⟨rfl, rfl⟩) (Fr.refl _ _) ⟨rfl, rfl, rfl, trivial⟩ ?_
  intro h1 v e1 g3 hi hf
  show VC fs ms _ _ _ _ _ _
  refine vc_slots 3 [(3, v)] ⟨g3, trivial⟩ (vpC_sound (z := true) ?_)
  set_option smartUnfolding false in conv => whnf
  exact hQ h1 v hi hf
end Ir
end Go.Proofs.Ytenafeojcgmnhaa
