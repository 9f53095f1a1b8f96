/-
  Rank: ranks that are none; both ends of all. The contract of RankKnown.
-/
import Derived.Test.YtenafeojcgmnhaaVRkI
set_option maxRecDepth 100000
set_option linter.unusedSimpArgs false
set_option linter.unusedVariables false
namespace Go.Proofs.Ytenafeojcgmnhaa
open Go Ads
namespace Ir

/-- A rank that is none. -/
def NoR (h : Heap) (v : AV) : Prop := v = .nilp ∨ ∃ b, v = .ptr b 0 ∧ h.get b = some (.cells [.nilp] true 0)
section
variable {h : Heap} {v : AV} {Q : AV → Heap → Prop}
theorem nor_none (hv : NoR h v) (hQ : Q (.bool true) h) : VD fs ms f_rank_Rank_none [v] h Q := by
  rcases hv with rfl | ⟨b, rfl, hg⟩
  · refine vd_start (af := C_rank_Rank_none) true rfl (Nat.le_of_ble_eq_true rfl) ?_
    set_option smartUnfolding false in conv => whnf
    exact hQ
  · refine vd_start (af := C_rank_Rank_none) true rfl (Nat.le_of_ble_eq_true rfl) ?_
    set_option smartUnfolding false in conv => whnf
    refine ⟨_, ld1 hg rfl, ?_⟩
    set_option smartUnfolding false in conv => whnf
    exact hQ
theorem nor_asked (hv : NoR h v) (t : Int) (hQ : Q (.int .i64 1) h) : VD fs ms f_rank_Rank_asked [v, .int .i64 t] h Q := by
  refine vd_start (af := C_rank_Rank_asked) true rfl (Nat.le_of_ble_eq_true rfl) ?_
  set_option smartUnfolding false in conv => whnf
  refine nor_none hv ?_
  set_option smartUnfolding false in conv => whnf
  exact hQ
theorem nor_at (hv : NoR h v) (t : Int) (hQ : Q (.tup [.int .i64 0, .bool false]) h) : VD fs ms f_rank_Rank_at [v, .int .i64 t] h Q := by
  refine vd_start (af := C_rank_Rank_at) true rfl (Nat.le_of_ble_eq_true rfl) ?_
  set_option smartUnfolding false in conv => whnf
  refine nor_asked hv t ?_
  set_option smartUnfolding false in conv => whnf
  exact hQ
theorem nor_first (hv : NoR h v) (hQ : Q (.tup [.int .i64 0, .int .i64 0, .bool false]) h) : VD fs ms f_rank_Rank_First [v] h Q := by
  refine vd_start (af := C_rank_Rank_First) true rfl (Nat.le_of_ble_eq_true rfl) ?_
  set_option smartUnfolding false in conv => whnf
  refine nor_none hv ?_
  set_option smartUnfolding false in conv => whnf
  exact hQ
theorem nor_pop (hv : NoR h v) (hQ : Q (.tup [.int .i64 0, .int .i64 0, .bool false]) h) : VD fs ms f_rank_Rank_Pop [v] h Q := by
  refine vd_start (af := C_rank_Rank_Pop) true rfl (Nat.le_of_ble_eq_true rfl) ?_
  set_option smartUnfolding false in conv => whnf
  refine nor_first hv ?_
  set_option smartUnfolding false in conv => whnf
  exact hQ
theorem nor_key (hv : NoR h v) (t : Int) (hQ : Q (.tup [.int .i64 0, .bool false]) h) : VD fs ms f_rank_Rank_Key [v, .int .i64 t] h Q := by
  refine vd_start (af := C_rank_Rank_Key) true rfl (Nat.le_of_ble_eq_true rfl) ?_
  set_option smartUnfolding false in conv => whnf
  refine nor_at hv t ?_
  set_option smartUnfolding false in conv => whnf
  exact hQ
theorem nor_put (hv : NoR h v) (t d : Int) (hQ : Q (.int .i64 1) h) : VD fs ms f_rank_Rank_Put [v, .int .i64 t, .int .i64 d] h Q := by
  refine vd_start (af := C_rank_Rank_Put) true rfl (Nat.le_of_ble_eq_true rfl) ?_
  set_option smartUnfolding false in conv => whnf
  refine nor_asked hv t ?_
  set_option smartUnfolding false in conv => whnf
  exact hQ
theorem nor_lower (hv : NoR h v) (t d : Int) (hQ : Q (.int .i64 1) h) : VD fs ms f_rank_Rank_Lower [v, .int .i64 t, .int .i64 d] h Q := by
  refine vd_start (af := C_rank_Rank_Lower) true rfl (Nat.le_of_ble_eq_true rfl) ?_
  set_option smartUnfolding false in conv => whnf
  refine nor_asked hv t ?_
  set_option smartUnfolding false in conv => whnf
  exact hQ
theorem nor_remove (hv : NoR h v) (t : Int) (hQ : Q (.bool false) h) : VD fs ms f_rank_Rank_Remove [v, .int .i64 t] h Q := by
  refine vd_start (af := C_rank_Rank_Remove) true rfl (Nat.le_of_ble_eq_true rfl) ?_
  set_option smartUnfolding false in conv => whnf
  refine nor_at hv t ?_
  set_option smartUnfolding false in conv => whnf
  exact hQ
theorem nor_len (hv : NoR h v) (hQ : Q (.int .i64 0) h) : VD fs ms f_rank_Rank_Len [v] h Q := by
  refine vd_start (af := C_rank_Rank_Len) true rfl (Nat.le_of_ble_eq_true rfl) ?_
  set_option smartUnfolding false in conv => whnf
  refine nor_none hv ?_
  set_option smartUnfolding false in conv => whnf
  exact hQ
theorem nor_ids (hv : NoR h v) (hQ : Q .nils h) : VD fs ms f_rank_Rank_Ids [v] h Q := by
  refine vd_start (af := C_rank_Rank_Ids) true rfl (Nat.le_of_ble_eq_true rfl) ?_
  set_option smartUnfolding false in conv => whnf
  refine nor_none hv ?_
  set_option smartUnfolding false in conv => whnf
  exact hQ
end
theorem kn_l0 {B : Nat} {Q : AX → Env → Heap → Prop} (hQ : ∀ e' h', Q (.exit 0) e' h') :
    ∀ (n i : Nat) (h : Heap) (v : AV) (env : Env), 2 - i = n → i ≤ 2 → NoR h v → AllAt env [(1, v), (2, .int .i64 ((i : Nat) : Int))] →
    VC fs ms B false (.loop L_escapementlaw02_RankKnown_0) env h Q := by
  intro n
  induction n using Nat.strongRecOn with
  | ind n ih =>
  intro i h v env hn hi hv henv
  refine vc_slots 4 _ henv ?_
  refine vc_loop (z := true) ?_
  set_option smartUnfolding false in conv => whnf
  refine br (fun hc => ?_) (fun hc => ?_) <;> (try rw [hc]) <;> (set_option smartUnfolding false in conv => whnf)
  · have hlt : i < 2 := by have := of_decide_eq_true hc; omega
    refine nor_first hv ?_
    set_option smartUnfolding false in conv => whnf
    refine nor_pop hv ?_
    set_option smartUnfolding false in conv => whnf
    refine nor_key hv 0 ?_
    set_option smartUnfolding false in conv => whnf
    refine nor_put hv (-1) 0 ?_
    set_option smartUnfolding false in conv => whnf
    refine nor_lower hv 64 0 ?_
    set_option smartUnfolding false in conv => whnf
    refine nor_remove hv 0 ?_
    set_option smartUnfolding false in conv => whnf
    refine nor_len hv ?_
    set_option smartUnfolding false in conv => whnf
    refine nor_ids hv ?_
    set_option smartUnfolding false in conv => whnf
    exact ih (2 - (i + 1)) (by omega) (i + 1) _ (.ptr h.next 0) _ rfl (by omega) (.inr ⟨h.next, rfl, get_new_same⟩) ⟨rfl, inc_slot (by omega), trivial⟩
  · exact hQ _ _

theorem size_rds (l : List Rd3) : allSize 3 (rds l) = true := allSize_map (enc := rdv) (fun _ => rfl) l
theorem flatL_rds : ∀ l : List Rd3, flatL (flatCells (rds l)) = true
  | [] => rfl
  | x :: l => by
    show flatL (.int .i64 x.1 :: .int .i64 x.2.1 :: .int .i64 x.2.2 :: flatCells (rds l)) = true
    simp only [flatL, flatL_rds l]
    rfl
theorem flat_rds_app (l m : List Rd3) : flatCells (rds (l ++ m)) = flatCells (rds l) ++ flatCells (rds m) := by simp [rds, flatCells]
/-- A row of so many calls. -/
def CR (h : Heap) (v : AV) (n : Nat) : Prop := ∃ l : List Rd3, l.length = n ∧ ((n = 0 ∧ v = .nils) ∨ ∃ b, b < h.next ∧ v = .sl b 0 n n true ∧ h.get b = some (.cells (flatCells (rds l)) true 3))
theorem CR.app {h : Heap} {v : AV} {n k : Nat} (hr : CR h v n) (hn : n + k ≤ 1000) (m : List Rd3) (hm : m.length = k + 1) {cs : List AV} (hcs : cs = flatCells (rds m)) : ∃ v' g', eV (.append 3 24) [v, .sl h.next 0 (k + 1) (k + 1) false] (h.new (.cells cs true 0)) = some (v', g') ∧ CR g' v' (n + (k + 1)) := by
  subst hcs
  obtain ⟨l, hl, hr⟩ := hr
  have hlen : (flatCells (rds m)).length = (k + 1) * 3 := by rw [flat_size (size_rds m), rds_len, hm]
  have hsrc : srcV 3 (h.new (.cells (flatCells (rds m)) true 0)) (.sl h.next 0 (k + 1) (k + 1) false) = some (k + 1, flatCells (rds m)) := src_new get_new_same hlen
  rcases hr with ⟨h1, h2⟩ | ⟨b, h1, h2, h3⟩
  · subst h1 h2
    refine ⟨_, _, app_nilsN (nx := h.next + 1) (by omega) (by omega) hsrc (flatL_rds m), m, by omega, .inr ⟨h.next + 1, Nat.lt_succ_self _, by rw [Nat.zero_add], ?_⟩⟩
    exact get_new_same (h := h.new (.cells (flatCells (rds m)) true 0))
  · subst h2
    have hg : (h.new (.cells (flatCells (rds m)) true 0)).get b = some (.cells (flatCells (rds l)) true 3) := by rw [get_new_ne h1]; exact h3
    have hvl : (flatCells (rds l)).length = n * 3 := by rw [flat_size (size_rds l), rds_len, hl]
    refine ⟨_, _, app_fullN hg hvl hsrc (flatL_rds m) (by omega) (by omega), l ++ m, by rw [List.length_append, hl, hm], .inr ⟨h.next + 1, Nat.lt_succ_self _, rfl, ?_⟩⟩
    have := get_new_same (h := (h.new (.cells (flatCells (rds m)) true 0)).del b) (x := .cells (flatCells (rds l) ++ flatCells (rds m)) true 3)
    rw [show ((h.new (.cells (flatCells (rds m)) true 0)).del b).next = h.next + 1 from rfl] at this
    rw [this, flat_rds_app]
theorem CR.view {h : Heap} {v : AV} {n k : Nat} (hr : CR h v n) (hk : k ≤ n) (h0 : 0 < n) : (∃ l z, l.length = n ∧ Frz (fun _ => True) h v (.fz z (rds l))) ∧ ∃ w l z, pV (.slice 3 false true false) [v, .int .i64 ((k : Nat) : Int)] = some w ∧ l.length = k ∧ Frz (fun _ => True) h w (.fz z (rds l)) := by
  obtain ⟨l, hl, hr⟩ := hr
  rcases hr with ⟨h1, h2⟩ | ⟨b, h1, h2, h3⟩
  · omega
  · subst h2
    refine ⟨⟨l, 0, hl, frz_open trivial h3 rfl (size_rds l) (by rw [rds_len, hl]) (cl_rds l)⟩, _, l.take k, 0, pre_sl hk, by rw [List.length_take]; omega, ?_⟩
    refine frz_pre (rest := flatCells (rds (l.drop k))) trivial h3 ?_ (size_rds _) (by rw [rds_len, List.length_take]; omega) hk (cl_rds _)
    rw [← flat_rds_app, List.take_append_drop]

theorem kn_l1 {B : Nat} {Q : AX → Env → Heap → Prop} (hQ : ∀ e' h' v, CR h' v 140 → Tr.get e' 11 = some v → Q (.exit 2) e' h') :
    ∀ (n i : Nat) (h : Heap) (v : AV) (env : Env), 70 - i = n → i ≤ 70 → CR h v (2 * i) → AllAt env [(11, v), (12, .int .i64 ((i : Nat) : Int))] →
    VC fs ms B false (.loop L_escapementlaw02_RankKnown_1) env h Q := by
  intro n
  induction n using Nat.strongRecOn with
  | ind n ih =>
  intro i h v env hn hi hv henv
  refine vc_slots 4 _ henv ?_
  refine vc_loopV (vc_seq true ?_)
  generalize hJ : ((i : Nat) : Int) = J
  set_option smartUnfolding false in conv => whnf
  refine br (fun hc => ?_) (fun hc => ?_) <;> (try rw [hc]) <;> (set_option smartUnfolding false in conv => whnf)
  · have hlt : i < 70 := by have := of_decide_eq_true hc; omega
    refine vc_seqV (vc_block (vpC_sound (z := true) ?_))
    set_option smartUnfolding false in conv => whnf
    refine ⟨_, rem_val _ _ (by decide), ?_⟩
    set_option smartUnfolding false in conv => whnf
    refine ⟨_, rem_val _ _ (by decide), ?_⟩
    set_option smartUnfolding false in conv => whnf
    obtain ⟨v', g', a1, a2⟩ := hv.app (k := 1) (by omega) [(0, IntKind.i64.wrap ((IntKind.i64.wrap (J * 37)).tmod 66 - 1), J.tmod 5), (1, J, IntKind.i64.wrap (0 - J))] rfl rfl
    refine eff_o a1 fun h1 e1 => ?_
    subst e1
    set_option smartUnfolding false in conv => whnf
    refine vpC_sound (z := true) ?_
    set_option smartUnfolding false in conv => whnf
    subst hJ
    exact ih (70 - (i + 1)) (by omega) (i + 1) h1 v' _ rfl (by omega) (by rw [show 2 * (i + 1) = 2 * i + (1 + 1) by omega]; exact a2) (by repeat' (first | exact trivial | refine And.intro (by first | with_reducible_and_instances rfl | (refine Eq.trans (b := some (AV.int .i64 _)) rfl (congrArg (fun z => some (AV.int .i64 z)) ?_); first | omega | (simp (disch := omega) only [IntWalk.i64_in] <;> omega)) | rfl) ?_))
  · have hge : i = 70 := by have := of_decide_eq_false hc; omega
    subst hge
    exact hQ _ h v hv rfl
theorem kn_l2 {B : Nat} {Q : AX → Env → Heap → Prop} (hQ : ∀ e' h' v, CR h' v 219 → Tr.get e' 11 = some v → Q (.exit 4) e' h') :
    ∀ (n i : Nat) (h : Heap) (v : AV) (env : Env), 70 - i = n → i ≤ 70 → CR h v (149 + i) → AllAt env [(11, v), (13, .int .i64 ((i : Nat) : Int))] →
    VC fs ms B false (.loop L_escapementlaw02_RankKnown_2) env h Q := by
  intro n
  induction n using Nat.strongRecOn with
  | ind n ih =>
  intro i h v env hn hi hv henv
  refine vc_slots 4 _ henv ?_
  refine vc_loopV (vc_seq true ?_)
  generalize hJ : ((i : Nat) : Int) = J
  set_option smartUnfolding false in conv => whnf
  refine br (fun hc => ?_) (fun hc => ?_) <;> (try rw [hc]) <;> (set_option smartUnfolding false in conv => whnf)
  · have hlt : i < 70 := by have := of_decide_eq_true hc; omega
    refine vc_seqV (vc_block (vpC_sound (z := true) ?_))
    set_option smartUnfolding false in conv => whnf
    obtain ⟨v', g', a1, a2⟩ := hv.app (k := 0) (by omega) [(3, 0, 0)] rfl rfl
    refine eff_o a1 fun h1 e1 => ?_
    subst e1
    set_option smartUnfolding false in conv => whnf
    refine vpC_sound (z := true) ?_
    set_option smartUnfolding false in conv => whnf
    subst hJ
    exact ih (70 - (i + 1)) (by omega) (i + 1) h1 v' _ rfl (by omega) a2 (by repeat' (first | exact trivial | refine And.intro (by first | with_reducible_and_instances rfl | (refine Eq.trans (b := some (AV.int .i64 _)) rfl (congrArg (fun z => some (AV.int .i64 z)) ?_); first | omega | (simp (disch := omega) only [IntWalk.i64_in] <;> omega)) | rfl) ?_))
  · have hge : i = 70 := by have := of_decide_eq_false hc; omega
    subst hge
    exact hQ _ h v hv rfl
theorem rankKnown_c : PC fs ms f_escapementlaw02_RankKnown [] (.bool true) := by
  refine pc_of rfl rfl ?_
  generalize hK : (fun (u : AV) (_ : Heap) => u = .bool true) = K
  have hKt : ∀ h, K (.bool true) h := fun h => by subst hK; rfl
  clear hK
  generalize (⟨0, .nil⟩ : Heap) = h0
  refine vd_begin (af := C_escapementlaw02_RankKnown) rfl (Nat.le_of_ble_eq_true rfl) ?_
  set_option smartUnfolding false in conv => whnf
  refine vc_seq true ?_
  set_option smartUnfolding false in conv => whnf
  refine vc_seq true ?_
  set_option smartUnfolding false in conv => whnf
  refine vc_seqV (vc_seq true ?_)
  set_option smartUnfolding false in conv => whnf
  refine vc_block ?_
  refine kn_l0 ?_ _ 0 h0 .nilp _ rfl (by omega) (.inl rfl) (by repeat' (first | exact trivial | refine And.intro (by first | with_reducible_and_instances rfl | (refine Eq.trans (b := some (AV.int .i64 _)) rfl (congrArg (fun z => some (AV.int .i64 z)) ?_); first | omega | (simp (disch := omega) only [IntWalk.i64_in] <;> omega)) | rfl) ?_))
  intro e1 h1
  show VC fs ms _ _ _ _ _ _
  refine vc_slots 4 [] trivial (vc_seq true ?_)
  set_option smartUnfolding false in conv => whnf
  refine vc_seqV (vc_seq true ?_)
  set_option smartUnfolding false in conv => whnf
  refine vc_block ?_
  refine kn_l1 ?_ _ 0 h1 .nils _ rfl (by omega) ⟨[], rfl, .inl ⟨rfl, rfl⟩⟩ (by repeat' (first | exact trivial | refine And.intro (by first | with_reducible_and_instances rfl | (refine Eq.trans (b := some (AV.int .i64 _)) rfl (congrArg (fun z => some (AV.int .i64 z)) ?_); first | omega | (simp (disch := omega) only [IntWalk.i64_in] <;> omega)) | rfl) ?_))
  intro e2 h2 v2 c2 g2
  show VC fs ms _ _ _ _ _ _
  refine vc_slots 4 [(11, v2)] ⟨g2, trivial⟩ (vc_seq true ?_)
  set_option smartUnfolding false in conv => whnf
  obtain ⟨v3, g', a1, a2⟩ := c2.app (k := 8) (by omega) [(0, 64, 0), (0, -1, 0), (1, 64, 0), (1, -1, 0), (2, 70, 0), (2, 5, 0), (1, 5, 0), (0, 5, -9223372036854775808), (1, 6, 9223372036854775807)] rfl rfl
  refine eff_o a1 fun h3 e3 => ?_
  subst e3
  set_option smartUnfolding false in conv => whnf
  refine vc_seqV (vc_seq true ?_)
  set_option smartUnfolding false in conv => whnf
  refine vc_block ?_
  refine kn_l2 ?_ _ 0 h3 v3 _ rfl (by omega) a2 (by repeat' (first | exact trivial | refine And.intro (by first | with_reducible_and_instances rfl | (refine Eq.trans (b := some (AV.int .i64 _)) rfl (congrArg (fun z => some (AV.int .i64 z)) ?_); first | omega | (simp (disch := omega) only [IntWalk.i64_in] <;> omega)) | rfl) ?_))
  intro e4 h4 v4 c4 g4
  show VC fs ms _ _ _ _ _ _
  obtain ⟨⟨l1, z1, l1n, f1⟩, w, l2, z2, w1, l2n, f2⟩ := c4.view (k := 140) (by omega) (by omega)
  refine vc_slots 4 [(11, v4)] ⟨g4, trivial⟩ (vpC_sound (z := true) ?_)
  set_option smartUnfolding false in conv => whnf
  refine vd_pure works02_c ?_
  set_option smartUnfolding false in conv => whnf
  refine vd_view (rankPlays_c (z := z1) (l := l1) (by omega)) rfl (.cons f1 .nil) ?_
  set_option smartUnfolding false in conv => whnf
  refine vd_view (args' := [.fz 3 (rds [])]) (rankPlays_c (z := 3) (l := []) (by simp)) rfl (.cons .nils .nil) ?_
  set_option smartUnfolding false in conv => whnf
  refine ⟨_, w1, ?_⟩
  set_option smartUnfolding false in conv => whnf
  refine vd_view (rankOrder_c (k := z2) (l := l2) (by omega)) rfl (.cons f2 .nil) ?_
  set_option smartUnfolding false in conv => whnf
  exact hKt _
end Ir
end Go.Proofs.Ytenafeojcgmnhaa
