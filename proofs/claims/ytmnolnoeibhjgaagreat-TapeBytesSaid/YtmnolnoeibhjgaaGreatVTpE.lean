/-
  Tape: a command's bytes, as the program makes them.
-/
import Derived.Test.YtmnolnoeibhjgaaGreatVTpD
set_option maxRecDepth 100000
set_option linter.unusedSimpArgs false
set_option linter.unusedVariables false
namespace Go.Proofs.YtmnolnoeibhjgaaGreat
open Go Ads
namespace Ir
theorem opt_go {α : Type} {x : Option α} {v : α} {f : α → Prop} (hx : x = some v) (hf : f v) : @Option.rec α (fun _ => Prop) False f x := by
  subst hx; exact hf
theorem res_cell {e : Env} {h : Heap} {a b o es : Nat} {wr : Bool} {vs : List AV} {w : AV} (ha : Tr.get e a = some (.ptr b o)) (hg : h.get b = some (.cells vs wr es)) (hv : vs[o]? = some w) : resAllV e h [.cell a 1 false] = some [w] := by
  have : h.load1 b o = some w := by simp only [Heap.load1, Heap.row, hg, hv]
  simp only [resAllV, resOfV, ha, cond_false, this]
theorem vc_rangeL {B : Nat} {g : Rand} {ps : List Nat} {a b : AC} {e : Env} {h : Heap} {f : Nat} {first capt : List AV} {Q : AX → Env → Heap → Prop} (L : Nat) (hL : h.next = L) (hao : argsOk e [g] = true) (hev : Env.ev e g = .func (.func f) first capt)
    (hw : VD fs ms f (first ++ (.yield L :: capt)) (h.new (.loop 0 none e ps a b)) fun _ h2 => ∃ x st, h2.get L = some (.loop st (pendOf x) e ps a b) ∧ st ≠ 1 ∧ (∀ v, x ≠ .panic v) ∧ Q x e (h2.set L (.loop 3 (pendOf x) e ps a b))) :
    VC fs ms B false (.rangeFunc g ps a b) e h Q := by
  subst hL
  exact vc_range hao hev hw
def nums (x : TCmd) : List Int := [x.k, x.p, x.t, x.n, x.m]
def opB (o : TOp) : List Int := puts [o.k, o.n] ++ txt o.s
def opsB (l : List TOp) : List Int := l.flatMap opB
def entB (x : TCmd) : List Int := puts (nums x) ++ puts [(x.ops.length : Int)] ++ opsB x.ops
theorem opsB_next {l : List TOp} {j : Nat} (hj : j < l.length) : opsB (l.take (j + 1)) = opsB (l.take j) ++ opB l[j] := by
  rw [take_next hj, opsB, List.flatMap_append]
  simp [opsB]
theorem opB_len {o : TOp} (h : o.s.length ≤ 16) : (opB o).length ≤ 43 := by
  have h1 := puts_len [o.k, o.n]
  have h2 := txt_len o.s
  simp only [List.length_cons, List.length_nil] at h1
  rw [opB, List.length_append]
  omega
theorem opsB_len : ∀ {l : List TOp}, (∀ o ∈ l, o.s.length ≤ 16) → (opsB l).length ≤ 43 * l.length
  | [], _ => by simp [opsB]
  | o :: l, h => by
    have h1 := opB_len (h o (by simp))
    have h2 := opsB_len (l := l) (fun o ho => h o (by simp [ho]))
    simp only [opsB, List.flatMap_cons, List.length_append, List.length_cons] at h2 ⊢
    omega
/-- A command that may be written. -/
structure Good (x : TCmd) : Prop where
  hn : ∀ n ∈ nums x, badN n = false
  hl : x.ops.length ≤ 32
  ho : ∀ o ∈ x.ops, badN o.k = false ∧ badN o.n = false ∧ o.s.length ≤ 16
theorem good_of {x : TCmd} (h : chk x = 0) : Good x := by
  unfold chk at h
  split at h
  · simp at h
  · rename_i h1
    simp only [Bool.or_eq_true, not_or, Bool.not_eq_true] at h1
    split at h
    · simp at h
    · rename_i h2
      refine ⟨?_, by omega, fun o ho => ?_⟩
      · intro n hn
        simp only [nums, List.mem_cons, List.not_mem_nil, or_false] at hn
        rcases hn with rfl | rfl | rfl | rfl | rfl <;> simp [h1]
      · have h3 := opsE_zero h o ho
        unfold opE at h3
        split at h3
        · simp at h3
        · rename_i h4
          simp only [Bool.or_eq_true, not_or, Bool.not_eq_true] at h4
          split at h3
          · simp at h3
          · exact ⟨h4.1, h4.2, by omega⟩
theorem entB_len {x : TCmd} (h : Good x) : (entB x).length ≤ 1500 := by
  have h1 : (puts (nums x)).length ≤ 9 * 5 := puts_len (nums x)
  have h2 := puts_len [(x.ops.length : Int)]
  have h3 := opsB_len (fun o ho => (h.ho o ho).2.2)
  have h4 := h.hl
  simp only [List.length_cons, List.length_nil] at h2
  rw [entB, List.length_append, List.length_append]
  omega
theorem idx_ptrs {A j : Nat} (hj : j < 5) : pV (.idxA 1 5 false) [.agg [.ptr A 0, .ptr A 1, .ptr A 2, .ptr A 3, .ptr A 4], .int .i64 (j : Nat)] = some (.ptr A j) := by
  match j, hj with
  | 0, _ => rfl
  | 1, _ => rfl
  | 2, _ => rfl
  | 3, _ => rfl
  | 4, _ => rfl
theorem cell_num (x : TCmd) {j : Nat} (hj : j < (nums x).length) : (tcm x).cells[j]? = some (.int .i64 (nums x)[j]) := by
  match j, hj with
  | 0, _ => rfl
  | 1, _ => rfl
  | 2, _ => rfl
  | 3, _ => rfl
  | 4, _ => rfl

theorem BR.cell {lo : Nat} {h : Heap} {v : AV} {M : List Int} (hr : BR lo h v M) : v.cells.length = 1 ∧ flatL v.cells = true := by
  rcases hr with ⟨_, rfl⟩ | ⟨_, b, _, _, rfl, _⟩
  · exact ⟨rfl, rfl⟩
  · exact ⟨rfl, rfl⟩
theorem BR.cells {lo : Nat} {h : Heap} {v : AV} {M : List Int} (hr : BR lo h v M) : v.cells = [v] := by
  rcases hr with ⟨_, rfl⟩ | ⟨_, b, _, _, rfl, _⟩
  · rfl
  · rfl
def entE (A : Nat) : Env := ek 3 [(1, .ptr A 0), (2, .ptr (A + 1) 0), (6, .func (.func f_tape_fields_1) [] [.ptr (A + 2) 0])]
/-- Within a range over a command's numbers. -/
structure EntS (h0 : Heap) (x : TCmd) (j : Nat) (h : Heap) : Prop where
  fr : Fr h0 h []
  hA : h.get h0.next = some (.cells (tcm x).cells true 0)
  hB : ∃ v, h.get (h0.next + 1) = some (.cells [v] true 0) ∧ BR (h0.next + 4) h v (puts ((nums x).take j))
  hC : h.get (h0.next + 2) = some (.cells [.ptr h0.next 0] true 0)
  hL : h.get (h0.next + 3) = some (.loop 0 none (entE h0.next) [7] L_tape_entry_0a L_tape_entry_0b)
  nx : h0.next + 4 ≤ h.next
theorem ent_l {h0 : Heap} {x : TCmd} (hg : Good x) {B : Nat} {Q : AX → Env → Heap → Prop} (hQ : ∀ e' h', EntS h0 x 5 h' → Q (.exit 0) e' h') :
    ∀ (m j : Nat) (h : Heap) (env : Env), 5 - j = m → j ≤ 5 → EntS h0 x j h → AllAt env [(0, .yield (h0.next + 3)), (20, .agg [.ptr h0.next 0, .ptr h0.next 1, .ptr h0.next 2, .ptr h0.next 3, .ptr h0.next 4]), (21, .int .i64 ((j : Nat) : Int))] →
      VC fs ms B false (.loop L_tape_fields_1_0) env h Q := by
  intro m
  induction m with
  | zero =>
    intro j h env hm hj hs henv
    have he : j = 5 := by omega
    refine vc_slots 5 _ henv ?_
    refine vc_loopV (vpC_sound (z := true) ?_)
    set_option smartUnfolding false in conv => whnf
    refine brf (by simp; omega) (fun hc => ?_)
    (try rw [hc])
    set_option smartUnfolding false in conv => whnf
    subst he
    exact hQ _ _ hs
  | succ m ih =>
    intro j h env hm hj hs henv
    have hlt : j < 5 := by omega
    refine vc_slots 5 _ henv ?_
    refine vc_loopV (vpC_sound (z := true) ?_)
    set_option smartUnfolding false in conv => whnf
    refine brt (by simp; omega) (fun hc => ?_)
    (try rw [hc])
    set_option smartUnfolding false in conv => whnf
    refine ⟨_, idx_ptrs hlt, ?_⟩
    set_option smartUnfolding false in conv => whnf
    obtain ⟨fr, hA, ⟨v, hB, hr⟩, hC, hL, nx⟩ := hs
    have hlo : h0.next + 4 ≤ h.next := nx
    have h1A : (h.set (h0.next + 3) (.loop 1 none (entE h0.next) [7] L_tape_entry_0a L_tape_entry_0b)).get h0.next = some (.cells (tcm x).cells true 0) := (get_set_ne (by omega)).trans hA
    have h1B : (h.set (h0.next + 3) (.loop 1 none (entE h0.next) [7] L_tape_entry_0a L_tape_entry_0b)).get (h0.next + 1) = some (.cells [v] true 0) := (get_set_ne (by omega)).trans hB
    have h1C : (h.set (h0.next + 3) (.loop 1 none (entE h0.next) [7] L_tape_entry_0a L_tape_entry_0b)).get (h0.next + 2) = some (.cells [.ptr h0.next 0] true 0) := (get_set_ne (by omega)).trans hC
    have h1L : (h.set (h0.next + 3) (.loop 1 none (entE h0.next) [7] L_tape_entry_0a L_tape_entry_0b)).get (h0.next + 3) = some (.loop 1 none (entE h0.next) [7] L_tape_entry_0a L_tape_entry_0b) := get_set_same
    have h1r : BR (h0.next + 4) (h.set (h0.next + 3) (.loop 1 none (entE h0.next) [7] L_tape_entry_0a L_tape_entry_0b)) v (puts ((nums x).take j)) := hr.keep ((Fr.refl h [h0.next + 3]).set (by simp)) (by simp)
    have h1f : Fr h0 (h.set (h0.next + 3) (.loop 1 none (entE h0.next) [7] L_tape_entry_0a L_tape_entry_0b)) [] := fr.setn (by omega)
    have h1n : h0.next + 4 ≤ (h.set (h0.next + 3) (.loop 1 none (entE h0.next) [7] L_tape_entry_0a L_tape_entry_0b)).next := nx
    refine vd_yield hL rfl ?_
    refine vpC_sound (z := true) ?_
    set_option smartUnfolding false in conv => whnf
    refine ⟨rfl, none, hL, ?_⟩
    generalize (h.set (h0.next + 3) (.loop 1 none (entE h0.next) [7] L_tape_entry_0a L_tape_entry_0b)) = H at *
    refine vpC_sound (z := true) ?_
    set_option smartUnfolding false in conv => whnf
    refine ⟨v, ld1 h1B rfl, ?_⟩
    set_option smartUnfolding false in conv => whnf
    refine ⟨_, ld1 h1A (cell_num x (j := j) hlt), ?_⟩
    set_option smartUnfolding false in conv => whnf
    have hbn : badN (nums x)[j] = false := hg.hn _ (List.getElem_mem _)
    have hpl : (puts ((nums x).take j)).length ≤ 45 := by
      have := puts_len ((nums x).take j)
      rw [List.length_take] at this
      omega
    refine put_g (l := [(nums x)[j]]) (c := H.next) (by intro n hn; simp at hn; subst hn; exact hbn) (by simp; omega) h1r.new get_new_same fun v' h' hr' hn' hk' => ?_
    have hn2 : H.next + 1 ≤ h'.next := hn'
    replace hr' : BR (h0.next + 4) h' v' _ := hr'.low (Nat.le_succ_of_le h1n)
    have hk2 : ∀ d, d < h0.next + 4 → h'.get d = H.get d := fun d hd => (hk' d (by show d < H.next + 1; omega) (by omega) (fun ho => by have := (h1r.own ho).1; omega)).trans (get_new_ne (by omega))
    set_option smartUnfolding false in conv => whnf
    obtain ⟨hv1, hv2⟩ := hr'.cell
    refine ⟨_, _, sto_o ((hk2 _ (by omega)).trans h1B) hv1 (Nat.le_refl _) hv2, ?_⟩
    set_option smartUnfolding false in conv => whnf
    refine ⟨by simp, ⟨1, none, (get_set_ne (by omega)).trans ((hk2 _ (by omega)).trans h1L)⟩, ?_⟩
    set_option smartUnfolding false in conv => whnf
    have hsp : Heap.splice [v] 0 v'.cells = [v'] := by rw [hr'.cells]; rfl
    rw [hsp]
    have hf2 : Fr h0 h' [] := h1f.app (by omega) (fun c hc => hk2 c (by omega))
    refine ih (j + 1) _ _ (by omega) (by omega) ⟨(hf2.setn (by omega)).setn (by omega), ?_, ⟨v', ?_, ?_⟩, ?_, get_set_same, ?_⟩ ⟨rfl, rfl, inc_slot (by omega), trivial⟩
    · exact (get_set_ne (by omega)).trans ((get_set_ne (by omega)).trans ((hk2 _ (by omega)).trans h1A))
    · exact (get_set_ne (by omega)).trans get_set_same
    · rw [take_next (l := nums x) (j := j) hlt, puts_app]
      exact (hr'.keep ((Fr.refl h' [h0.next + 1]).set (by simp)) (by simp)).keep ((Fr.refl _ [h0.next + 3]).set (by simp)) (by simp)
    · exact (get_set_ne (by omega)).trans ((get_set_ne (by omega)).trans ((hk2 _ (by omega)).trans h1C))
    · show h0.next + 4 ≤ h'.next
      omega
theorem entf_c {h0 h : Heap} {x : TCmd} (hg : Good x) (hs : EntS h0 x 0 h) {Q : AV → Heap → Prop} (hQ : ∀ v h', EntS h0 x 5 h' → Q v h') : VD fs ms f_tape_fields_1 [.yield (h0.next + 3), .ptr (h0.next + 2) 0] h Q := by
  refine vd_begin (af := C_tape_fields_1) rfl (Nat.le_of_ble_eq_true rfl) ?_
  set_option smartUnfolding false in conv => whnf
  refine vc_seq true ?_
  set_option smartUnfolding false in conv => whnf
  repeat (first | (refine ⟨_, ld1 hs.hC rfl, ?_⟩; set_option smartUnfolding false in conv => whnf))
  refine vc_block ?_
  refine ent_l hg (h0 := h0) (x := x) ?_ 5 0 _ _ rfl (Nat.zero_le _) hs ⟨rfl, rfl, rfl, trivial⟩
  intro e' h' hs'
  exact hQ _ h' hs'
theorem fields_c {A : Nat} {h : Heap} {Q : AV → Heap → Prop} (hQ : Q (.func (.func f_tape_fields_1) [] [.ptr h.next 0]) (h.new (.cells [.ptr A 0] true 0))) : VD fs ms f_tape_fields [.ptr A 0] h Q := by
  refine vd_start (af := C_tape_fields) true rfl (Nat.le_of_ble_eq_true rfl) ?_
  set_option smartUnfolding false in conv => whnf
  exact hQ
/-- The loop over a command's acts. -/
structure EntT (h0 : Heap) (x : TCmd) (L : List Int) (h : Heap) : Prop where
  fr : Fr h0 h []
  hA : h.get h0.next = some (.cells (tcm x).cells true 0)
  hB : ∃ v, h.get (h0.next + 1) = some (.cells [v] true 0) ∧ BR (h0.next + 4) h v L
  nx : h0.next + 4 ≤ h.next
theorem ento_l {h0 : Heap} {x : TCmd} (hg : Good x) {P : List Int} (hP : P.length ≤ 100) {B : Nat} {Q : AX → Env → Heap → Prop} (hQ : ∀ e' h', EntT h0 x (P ++ opsB x.ops) h' → Tr.get e' 2 = some (.ptr (h0.next + 1) 0) → Q (.exit 2) e' h') :
    ∀ (m j : Nat) (h : Heap) (env : Env), x.ops.length - j = m → j ≤ x.ops.length → EntT h0 x (P ++ opsB (x.ops.take j)) h → AllAt env [(2, .ptr (h0.next + 1) 0), (27, .fz x.kk (tops x.ops)), (28, .int .i64 ((x.ops.length : Nat) : Int)), (29, .int .i64 ((j : Nat) : Int))] →
      VC fs ms B false (.loop L_tape_entry_1) env h Q := by
  intro m
  induction m with
  | zero =>
    intro j h env hm hj hs henv
    have he : j = x.ops.length := by omega
    refine vc_slots 5 _ henv ?_
    refine vc_loopV (vpC_sound (z := true) ?_)
    set_option smartUnfolding false in conv => whnf
    refine brf (by simp; omega) (fun hc => ?_)
    (try rw [hc])
    set_option smartUnfolding false in conv => whnf
    subst he
    exact hQ _ _ (by simpa using hs) rfl
  | succ m ih =>
    intro j h env hm hj hs henv
    have hlt : j < x.ops.length := by omega
    have hix := idx_top (k := x.kk) hlt
    have ho := hg.ho _ (List.getElem_mem hlt)
    have hnx := opsB_next hlt
    have hpl : (opsB (x.ops.take j)).length ≤ 43 * 32 := by
      have := opsB_len (l := x.ops.take j) (fun o ho => (hg.ho o (List.mem_of_mem_take ho)).2.2)
      have h2 := hg.hl
      rw [List.length_take] at this
      omega
    generalize hO : x.ops[j] = o at *
    have h62 := hg.hl
    refine vc_slots 5 _ henv ?_
    refine vc_loopV (vpC_sound (z := true) ?_)
    set_option smartUnfolding false in conv => whnf
    refine brt (by simp; omega) (fun hc => ?_)
    (try rw [hc])
    set_option smartUnfolding false in conv => whnf
    refine ⟨_, hix, ?_⟩
    set_option smartUnfolding false in conv => whnf
    refine ⟨top o, rfl, ?_⟩
    set_option smartUnfolding false in conv => whnf
    obtain ⟨fr, hA, ⟨v, hB, hr⟩, nx⟩ := hs
    refine eff_o (sto_o get_new_same rfl (Nat.le_refl _) rfl) fun h1 e1 => ?_
    have h1A : h1.get h0.next = some (.cells (tcm x).cells true 0) := by rw [e1]; exact (get_set_ne (by omega)).trans ((get_new_ne (by omega)).trans hA)
    have h1B : h1.get (h0.next + 1) = some (.cells [v] true 0) := by rw [e1]; exact (get_set_ne (by omega)).trans ((get_new_ne (by omega)).trans hB)
    have h1c : h1.get h.next = some (.cells (top o).cells true 0) := by rw [e1, get_set_same]; rfl
    have h1r : BR (h0.next + 4) h1 v (P ++ opsB (x.ops.take j)) := by
      rw [e1]
      exact hr.keep (T := []) (((Fr.refl h []).new).setn (Nat.le_refl _)) (by simp)
    have h1f : Fr h0 h1 [] := by rw [e1]; exact fr.new.setn fr.next
    have h1n : h1.next = h.next + 1 := by rw [e1]; rfl
    have hvo : ¬ OwnB v h.next := fun hw => by have := (hr.own hw).2; omega
    clear e1
    set_option smartUnfolding false in conv => whnf
    refine ⟨v, ld1 h1B rfl, ?_⟩
    set_option smartUnfolding false in conv => whnf
    refine ⟨_, ld1 h1c rfl, ?_⟩
    set_option smartUnfolding false in conv => whnf
    refine ⟨_, ld1 h1c rfl, ?_⟩
    set_option smartUnfolding false in conv => whnf
    have hn4 : h0.next + 4 ≤ h1.next := by omega
    refine put_g (l := [o.k, o.n]) (c := h1.next) (by intro n hn; simp at hn; rcases hn with rfl | rfl <;> simp [ho]) (by rw [List.length_append]; simp; omega) h1r.new get_new_same fun v' h2 hr' hn' hk' => ?_
    have hn2 : h1.next + 1 ≤ h2.next := hn'
    replace hr' : BR (h1.next + 1) h2 v' _ := hr'
    have hk2 : ∀ d, d < h1.next → ¬ OwnB v d → h2.get d = h1.get d := fun d hd hw => (hk' d (by show d < h1.next + 1; omega) (by omega) hw).trans (get_new_ne hd)
    have hvl : ∀ d, d < h0.next + 4 → ¬ OwnB v d := fun d hd hw => by have := (hr.own hw).1; omega
    set_option smartUnfolding false in conv => whnf
    obtain ⟨hv1, hv2⟩ := hr'.cell
    refine eff_o (sto_o ((hk2 _ (by omega) (hvl _ (by omega))).trans h1B) hv1 (Nat.le_refl _) hv2) fun h3 e3 => ?_
    have hsp : Heap.splice [v] 0 v'.cells = [v'] := by rw [hr'.cells]; rfl
    rw [hsp] at e3
    have h3A : h3.get h0.next = some (.cells (tcm x).cells true 0) := by rw [e3]; exact (get_set_ne (by omega)).trans ((hk2 _ (by omega) (hvl _ (by omega))).trans h1A)
    have h3B : h3.get (h0.next + 1) = some (.cells [v'] true 0) := by rw [e3]; exact get_set_same
    have h3c : h3.get h.next = some (.cells (top o).cells true 0) := by rw [e3]; exact (get_set_ne (by omega)).trans ((hk2 _ (by omega) hvo).trans h1c)
    have h3r : BR (h1.next + 1) h3 v' (P ++ opsB (x.ops.take j) ++ puts [o.k, o.n]) := by rw [e3]; exact hr'.keep ((Fr.refl h2 [h0.next + 1]).set (by simp)) (by simp; omega)
    have h3f : Fr h0 h3 [] := by rw [e3]; exact (h1f.app (by omega) (fun c hc => hk2 c (by omega) (hvl _ (by omega)))).setn (by omega)
    have h3n : h3.next = h2.next := by rw [e3]; rfl
    clear e3
    set_option smartUnfolding false in conv => whnf
    refine ⟨v', ld1 h3B rfl, ?_⟩
    set_option smartUnfolding false in conv => whnf
    refine ⟨_, ld1 h3c rfl, ?_⟩
    set_option smartUnfolding false in conv => whnf
    have hp2 := puts_len [o.k, o.n]
    simp only [List.length_cons, List.length_nil] at hp2
    refine text_g ho.2.2 (by rw [List.length_append, List.length_append]; omega) h3r fun v'' h4 hr4 hn4' hk4 => ?_
    have hvl2 : ∀ d, d < h0.next + 4 → ¬ OwnB v' d := fun d hd hw => by have := (h3r.own hw).1; omega
    set_option smartUnfolding false in conv => whnf
    obtain ⟨hw1, hw2⟩ := hr4.cell
    refine eff_o (sto_o ((hk4 _ (by omega) (hvl2 _ (by omega))).trans h3B) hw1 (Nat.le_refl _) hw2) fun h5 e5 => ?_
    have hsp2 : Heap.splice [v'] 0 v''.cells = [v''] := by rw [hr4.cells]; rfl
    rw [hsp2] at e5
    have h5s : EntT h0 x (P ++ opsB (x.ops.take (j + 1))) h5 := by
      rw [hnx, e5]
      refine ⟨(h3f.app (by omega) (fun c hc => hk4 c (by omega) (hvl2 _ (by omega)))).setn (by omega), ?_, ⟨v'', get_set_same, ?_⟩, ?_⟩
      · exact (get_set_ne (by omega)).trans ((hk4 _ (by omega) (hvl2 _ (by omega))).trans h3A)
      · rw [opB, ← List.append_assoc, ← List.append_assoc]
        refine (hr4.low (by omega)).keep ((Fr.refl h4 [h0.next + 1]).set (by simp)) (by simp)
      · show h0.next + 4 ≤ h4.next
        omega
    clear e5
    set_option smartUnfolding false in conv => whnf
    exact ih (j + 1) h5 _ (by omega) (by omega) h5s ⟨rfl, rfl, rfl, inc_slot (by omega), trivial⟩

/-- A command's bytes. -/
theorem ent_c {x : TCmd} (hg : Good x) {h : Heap} {Q : AV → Heap → Prop} (hQ : ∀ v h', BR h.next h' v (entB x) → Fr h h' [] → Q v h') : VD fs ms f_tape_entry [tcm x] h Q := by
  refine vd_begin (af := C_tape_entry) rfl (Nat.le_of_ble_eq_true rfl) ?_
  set_option smartUnfolding false in conv => whnf
  refine vc_seq true ?_
  set_option smartUnfolding false in conv => whnf
  refine vc_seqV (vc_seq true ?_)
  set_option smartUnfolding false in conv => whnf
  refine fields_c ?_
  set_option smartUnfolding false in conv => whnf
  refine vc_block ?_
  refine vc_slots 3 [(1, .ptr h.next 0), (2, .ptr (h.next + 1) 0), (6, .func (.func f_tape_fields_1) [] [.ptr (h.next + 2) 0])] ⟨rfl, rfl, rfl, trivial⟩ ?_
  refine vc_rangeL (h.next + 3) rfl rfl rfl ?_
  refine entf_c hg (h0 := h) (x := x) ⟨?_, ?_, ⟨.nils, ?_, GR.nil⟩, ?_, ?_, ?_⟩ ?_
  · exact (((Fr.refl h []).new).new).new.new
  · exact (get_new_ne (show h.next < h.next + 3 by omega)).trans ((get_new_ne (show h.next < h.next + 2 by omega)).trans ((get_new_ne (show h.next < h.next + 1 by omega)).trans get_new_same))
  · exact (get_new_ne (show h.next + 1 < h.next + 3 by omega)).trans ((get_new_ne (show h.next + 1 < h.next + 2 by omega)).trans (get_new_same (h := h.new _)))
  · exact (get_new_ne (show h.next + 2 < h.next + 3 by omega)).trans (get_new_same (h := (h.new _).new _))
  · exact get_new_same (h := ((h.new _).new _).new _)
  · exact Nat.le_refl _
  intro v2 h2 hs
  refine ⟨.normal, 0, hs.hL, by decide, by simp, ?_⟩
  show VC fs ms h.next false _ _ _ _
  obtain ⟨fr, hA, ⟨v, hB, hr⟩, hC, hL, nx⟩ := hs
  have h1A : (h2.set (h.next + 3) (.loop 3 none (entE h.next) [7] L_tape_entry_0a L_tape_entry_0b)).get h.next = some (.cells (tcm x).cells true 0) := (get_set_ne (by omega)).trans hA
  have h1B : (h2.set (h.next + 3) (.loop 3 none (entE h.next) [7] L_tape_entry_0a L_tape_entry_0b)).get (h.next + 1) = some (.cells [v] true 0) := (get_set_ne (by omega)).trans hB
  have h1r : BR (h.next + 4) (h2.set (h.next + 3) (.loop 3 none (entE h.next) [7] L_tape_entry_0a L_tape_entry_0b)) v (puts (nums x)) := hr.keep ((Fr.refl h2 [h.next + 3]).set (by simp)) (by simp)
  have h1f : Fr h (h2.set (h.next + 3) (.loop 3 none (entE h.next) [7] L_tape_entry_0a L_tape_entry_0b)) [] := fr.setn (by omega)
  have h1n : h.next + 4 ≤ (h2.set (h.next + 3) (.loop 3 none (entE h.next) [7] L_tape_entry_0a L_tape_entry_0b)).next := nx
  show VC fs ms h.next false _ (ek 3 _) (h2.set (h.next + 3) (.loop 3 none (entE h.next) [7] L_tape_entry_0a L_tape_entry_0b)) _
  generalize (h2.set (h.next + 3) (.loop 3 none (entE h.next) [7] L_tape_entry_0a L_tape_entry_0b)) = H at *
  have hvl : ∀ d, d < h.next + 4 → ¬ OwnB v d := fun d hd hw => by have := (h1r.own hw).1; omega
  refine vc_slots 3 [(1, .ptr h.next 0), (2, .ptr (h.next + 1) 0)] ⟨rfl, rfl, trivial⟩ ?_
  refine vc_seq true ?_
  set_option smartUnfolding false in conv => whnf
  refine ⟨v, ld1 h1B rfl, ?_⟩
  set_option smartUnfolding false in conv => whnf
  refine ⟨.fz x.kk (tops x.ops), ld1 h1A rfl, ?_⟩
  set_option smartUnfolding false in conv => whnf
  rw [len_tops]
  have hol := hg.hl
  have hpl : (puts (nums x)).length ≤ 9 * 5 := puts_len (nums x)
  refine put_g (l := [(x.ops.length : Int)]) (c := H.next) (by intro n hn; simp at hn; subst hn; exact badN_len (by omega)) (by simp; omega) h1r.new get_new_same fun v' h3 hr' hn' hk' => ?_
  have hn2 : H.next + 1 ≤ h3.next := hn'
  replace hr' : BR (H.next + 1) h3 v' _ := hr'
  have hk2 : ∀ d, d < H.next → ¬ OwnB v d → h3.get d = H.get d := fun d hd hw => (hk' d (by show d < H.next + 1; omega) (by omega) hw).trans (get_new_ne hd)
  set_option smartUnfolding false in conv => whnf
  obtain ⟨hv1, hv2⟩ := hr'.cell
  refine eff_o (sto_o ((hk2 _ (by omega) (hvl _ (by omega))).trans h1B) hv1 (Nat.le_refl _) hv2) fun h4 e4 => ?_
  have hsp : Heap.splice [v] 0 v'.cells = [v'] := by rw [hr'.cells]; rfl
  rw [hsp] at e4
  have h4s : EntT h x (puts (nums x) ++ puts [(x.ops.length : Int)] ++ opsB (x.ops.take 0)) h4 := by
    rw [e4]
    refine ⟨(h1f.app (by omega) (fun c hc => hk2 c (by omega) (hvl _ (by omega)))).setn (by omega), (get_set_ne (by omega)).trans ((hk2 _ (by omega) (hvl _ (by omega))).trans h1A), ⟨v', get_set_same, ?_⟩, ?_⟩
    · rw [List.take_zero]
      simp only [opsB, List.flatMap_nil, List.append_nil]
      exact (hr'.low (by omega)).keep ((Fr.refl h3 [h.next + 1]).set (by simp)) (by simp)
    · show h.next + 4 ≤ h3.next
      omega
  clear e4
  set_option smartUnfolding false in conv => whnf
  refine vc_seqV (vc_seq true ?_)
  set_option smartUnfolding false in conv => whnf
  refine ⟨.fz x.kk (tops x.ops), ld1 h4s.hA rfl, ?_⟩
  set_option smartUnfolding false in conv => whnf
  refine vc_block ?_
  refine ento_l hg (P := puts (nums x) ++ puts [(x.ops.length : Int)]) (by rw [List.length_append]; have := puts_len [(x.ops.length : Int)]; simp only [List.length_cons, List.length_nil] at this; omega) ?_ x.ops.length 0 h4 _ rfl (Nat.zero_le _) h4s ⟨rfl, rfl, ?_, rfl, trivial⟩
  · intro e' h' hs' h2'
    show VC fs ms h.next false _ _ _ _
    obtain ⟨fr5, hA5, ⟨w, hB5, hr5⟩, nx5⟩ := hs'
    refine vc_slots 3 [(2, .ptr (h.next + 1) 0)] ⟨h2', trivial⟩ (vpC_sound (z := true) ?_)
    set_option smartUnfolding false in conv => whnf
    refine ⟨w, ld1 hB5 rfl, ?_⟩
    set_option smartUnfolding false in conv => whnf
    obtain ⟨hw1, hw2⟩ := hr5.cell
    refine eff_o (sto_o hB5 hw1 (Nat.le_refl _) hw2) fun h6 e6 => ?_
    have hsp2 : Heap.splice [w] 0 w.cells = [w] := by rw [hr5.cells]; rfl
    rw [hsp2] at e6
    set_option smartUnfolding false in conv => whnf
    refine opt_go (v := [w]) (res_cell rfl (by rw [e6]; exact get_set_same) rfl) ?_
    set_option smartUnfolding false in conv => whnf
    refine hQ w h6 ?_ ?_
    · rw [e6]
      exact (hr5.keep ((Fr.refl h' [h.next + 1]).set (by simp)) (by simp)).low (by omega)
    · rw [e6]
      exact fr5.setn (by omega)
  · show some (AV.int .i64 (((tops x.ops).length : Nat) : Int)) = _
    rw [len_tops]
end Ir
end Go.Proofs.YtmnolnoeibhjgaaGreat
