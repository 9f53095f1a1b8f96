/-
  Ready: queues that are none; both ends of all.
-/
import Derived.Test.YtenafeojcgmnhaaVRdR
set_option maxRecDepth 100000
set_option linter.unusedSimpArgs false
set_option linter.unusedVariables false
namespace Go.Proofs.Ytenafeojcgmnhaa
open Go Ads
namespace Ir

/-- A queue that is none. -/
def NoQ (h : Heap) (v : AV) : Prop := v = .nilp ∨ ∃ b, v = .ptr b 0 ∧ h.get b = some (.cells [.nilp, .int .i64 0] true 0)
theorem no_none {h : Heap} {v : AV} (hv : NoQ h v) {Q : AV → Heap → Prop} (hQ : Q (.bool true) h) : VD fs ms f_ready_Queue_none [v] h Q := by
  rcases hv with rfl | ⟨b, rfl, hg⟩
  · refine vd_start (af := C_ready_Queue_none) true rfl (Nat.le_of_ble_eq_true rfl) ?_
    set_option smartUnfolding false in conv => whnf
    exact hQ
  · refine vd_start (af := C_ready_Queue_none) true rfl (Nat.le_of_ble_eq_true rfl) ?_
    set_option smartUnfolding false in conv => whnf
    refine ⟨_, ld1 hg rfl, ?_⟩
    set_option smartUnfolding false in conv => whnf
    exact hQ
theorem no_first {h : Heap} {v : AV} (hv : NoQ h v) {Q : AV → Heap → Prop} (hQ : Q (.tup [.int .i64 0, .int .i64 0, .bool false]) h) : VD fs ms f_ready_Queue_First [v] h Q := by
  refine vd_start (af := C_ready_Queue_First) true rfl (Nat.le_of_ble_eq_true rfl) ?_
  set_option smartUnfolding false in conv => whnf
  refine no_none hv ?_
  set_option smartUnfolding false in conv => whnf
  exact hQ
theorem no_dead {h : Heap} {v : AV} (hv : NoQ h v) (t : Int) {Q : AV → Heap → Prop} (hQ : Q (.tup [.int .i64 0, .bool false]) h) : VD fs ms f_ready_Queue_Deadline [v, .int .i64 t] h Q := by
  refine vd_start (af := C_ready_Queue_Deadline) true rfl (Nat.le_of_ble_eq_true rfl) ?_
  set_option smartUnfolding false in conv => whnf
  refine no_none hv ?_
  set_option smartUnfolding false in conv => whnf
  exact hQ
theorem no_put {h : Heap} {v : AV} (hv : NoQ h v) (t d : Int) {Q : AV → Heap → Prop} (hQ : Q (.int .i64 1) h) : VD fs ms f_ready_Queue_Put [v, .int .i64 t, .int .i64 d] h Q := by
  refine vd_start (af := C_ready_Queue_Put) true rfl (Nat.le_of_ble_eq_true rfl) ?_
  set_option smartUnfolding false in conv => whnf
  refine no_none hv ?_
  set_option smartUnfolding false in conv => whnf
  exact hQ
theorem no_remove {h : Heap} {v : AV} (hv : NoQ h v) (t : Int) {Q : AV → Heap → Prop} (hQ : Q (.bool false) h) : VD fs ms f_ready_Queue_Remove [v, .int .i64 t] h Q := by
  refine vd_start (af := C_ready_Queue_Remove) true rfl (Nat.le_of_ble_eq_true rfl) ?_
  set_option smartUnfolding false in conv => whnf
  refine no_none hv ?_
  set_option smartUnfolding false in conv => whnf
  exact hQ
theorem no_jobs {h : Heap} {v : AV} (hv : NoQ h v) {Q : AV → Heap → Prop} (hQ : Q .nils h) : VD fs ms f_ready_Queue_Jobs [v] h Q := by
  refine vd_start (af := C_ready_Queue_Jobs) true rfl (Nat.le_of_ble_eq_true rfl) ?_
  set_option smartUnfolding false in conv => whnf
  refine no_none hv ?_
  set_option smartUnfolding false in conv => whnf
  exact hQ
theorem no_late {h : Heap} {v : AV} (hv : NoQ h v) (n : Int) {Q : AV → Heap → Prop} (hQ : Q .nils h) : VD fs ms f_ready_Queue_Late [v, .int .i64 n] h Q := by
  refine vd_begin (af := C_ready_Queue_Late) rfl (Nat.le_of_ble_eq_true rfl) ?_
  set_option smartUnfolding false in conv => whnf
  refine vc_seq true ?_
  set_option smartUnfolding false in conv => whnf
  refine vc_seqV (vc_seq true ?_)
  set_option smartUnfolding false in conv => whnf
  refine no_jobs hv ?_
  set_option smartUnfolding false in conv => whnf
  refine vc_block (vc_loop (z := true) ?_)
  set_option smartUnfolding false in conv => whnf
  refine vpC_sound (z := true) ?_
  set_option smartUnfolding false in conv => whnf
  exact hQ
theorem known_l0 {B : Nat} {Q : AX → Env → Heap → Prop} (hQ : ∀ e' h', Q (.exit 0) e' h') :
    ∀ (n i : Nat) (h : Heap) (v : AV) (env : Env), 2 - i = n → i ≤ 2 → NoQ h v → AllAt env [(1, v), (2, .int .i64 ((i : Nat) : Int))] →
    VC fs ms B false (.loop L_escapementlaw15_ReadyKnown_0) env h Q := by
  intro n
  induction n using Nat.strongRecOn with
  | ind n ih =>
  intro i h v env hn hi hv henv
  refine vc_slots 3 [(1, v), (2, .int .i64 ((i : Nat) : Int))] henv ?_
  refine vc_loop (z := true) ?_
  set_option smartUnfolding false in conv => whnf
  refine br (fun hc => ?_) (fun hc => ?_) <;> (try rw [hc]) <;> (set_option smartUnfolding false in conv => whnf)
  · have hlt : i < 2 := by have := of_decide_eq_true hc; omega
    refine no_first hv ?_
    set_option smartUnfolding false in conv => whnf
    refine no_dead hv 0 ?_
    set_option smartUnfolding false in conv => whnf
    refine no_put hv (-1) 0 ?_
    set_option smartUnfolding false in conv => whnf
    refine no_remove hv 0 ?_
    set_option smartUnfolding false in conv => whnf
    refine no_late hv 5 ?_
    set_option smartUnfolding false in conv => whnf
    refine no_jobs hv ?_
    set_option smartUnfolding false in conv => whnf
    exact ih (2 - (i + 1)) (by omega) (i + 1) _ (.ptr h.next 0) _ rfl (by omega) (.inr ⟨h.next, rfl, get_new_same⟩) ⟨rfl, inc_slot (by omega), trivial⟩
  · exact hQ _ _

/-- A row of calls that was made behind the first blocks. -/
def DRow (lo : Nat) (h : Heap) (v : AV) (l : List Do3) : Prop :=
  (l = [] ∧ v = .nils) ∨ ∃ b, lo ≤ b ∧ b < h.next ∧ v = .sl b 0 l.length l.length true ∧ h.get b = some (.cells (flatCells (dos l)) true 3)
theorem size_dos (l : List Do3) : allSize 3 (dos l) = true := allSize_map (enc := dov) (fun _ => rfl) l
theorem DRow.frz {lo : Nat} {h : Heap} {v : AV} {l : List Do3} (hr : DRow lo h v l) : ∃ k, Frz (fun _ => True) h v (.fz k (dos l)) := by
  rcases hr with ⟨rfl, rfl⟩ | ⟨b, h1, h2, rfl, h4⟩
  · exact ⟨3, .nils⟩
  · exact ⟨0, frz_open trivial h4 rfl (size_dos l) (dos_len l).symm (cl_dos l)⟩
theorem flatL_dos : ∀ l : List Do3, flatL (flatCells (dos l)) = true
  | [] => rfl
  | x :: l => by
    show flatL (.int .i64 x.1 :: .int .i64 x.2.1 :: .int .i64 x.2.2 :: flatCells (dos l)) = true
    simp only [flatL, flatL_dos l]
    rfl
theorem flat_dos_app (l m : List Do3) : flatCells (dos (l ++ m)) = flatCells (dos l) ++ flatCells (dos m) := by simp [dos, flatCells]
theorem DRow.app4 {lo : Nat} {h : Heap} {v : AV} {l : List Do3} (hr : DRow lo h v l) (hlo : lo ≤ h.next) (hl : l.length ≤ 1000) (m : List Do3) (hm : m.length = 4) {cs : List AV} (hcs : cs = flatCells (dos m)) : ∃ v' g', eV (.append 3 24) [v, .sl h.next 0 4 4 false] (h.new (.cells cs true 0)) = some (v', g') ∧
    DRow lo g' v' (l ++ m) ∧ h.next ≤ g'.next ∧ ∀ c, c < lo → g'.get c = h.get c := by
  subst hcs
  have hlen : (flatCells (dos m)).length = 4 * 3 := by rw [flat_size (size_dos m), dos_len, hm]
  have hsrc : srcV 3 (h.new (.cells (flatCells (dos m)) true 0)) (.sl h.next 0 4 4 false) = some (3 + 1, flatCells (dos m)) := src_new get_new_same hlen
  rcases hr with ⟨h1, h2⟩ | ⟨b, h1, h2, h3, h4⟩
  · subst h1 h2
    refine ⟨_, _, app_nilsN (n := 3) (nx := h.next + 1) (by omega) (by omega) hsrc (flatL_dos m), .inr ⟨h.next + 1, by omega, Nat.lt_succ_self _, by rw [List.nil_append, hm], ?_⟩, by show h.next ≤ h.next + 1 + 1; omega, fun c hc => ?_⟩
    · exact get_new_same (h := h.new (.cells (flatCells (dos m)) true 0))
    · exact (get_new_ne (h := h.new (.cells (flatCells (dos m)) true 0)) (show c < h.next + 1 by omega)).trans (get_new_ne (by omega))
  · subst h3
    have hg : (h.new (.cells (flatCells (dos m)) true 0)).get b = some (.cells (flatCells (dos l)) true 3) := by rw [get_new_ne h2]; exact h4
    refine ⟨_, _, app_fullN (n := 3) hg (by rw [flat_size (size_dos l), dos_len]) hsrc (flatL_dos m) (by omega) (by omega), .inr ⟨h.next + 1, by omega, Nat.lt_succ_self _, by rw [List.length_append, hm]; rfl, ?_⟩, by show h.next ≤ h.next + 1 + 1; omega, fun c hc => ?_⟩
    · rw [flat_dos_app]
      exact get_new_same (h := (h.new (.cells (flatCells (dos m)) true 0)).del b)
    · exact (get_new_ne (h := (h.new (.cells (flatCells (dos m)) true 0)).del b) (show c < h.next + 1 by omega)).trans ((get_del_ne (by omega)).trans (get_new_ne (by omega)))

theorem ints_at {V : List Int} {i : Nat} (h : i < V.length) : (ints V)[i * 1]? = some (.int .i64 (gD V i)) := by
  rw [Nat.mul_one, ints, List.getElem?_map, List.getElem?_eq_getElem h, gD_eq h]
  rfl
def knE (e N i : Nat) (v : AV) (k : Nat) : List (Nat × AV) := [(8, .sl e 0 N N false), (9, .int .i64 ((i : Nat) : Int)), (10, v), (11, .int .i64 ((k : Nat) : Int))]
theorem known_l2 {e i lo : Nat} {E : List Int} (hE : E.length ≤ 100) (he : e < lo) {B : Nat} {Q : AX → Env → Heap → Prop}
    (hQ : ∀ e' h' v' l', Tr.get e' 8 = some (.sl e 0 E.length E.length false) → Tr.get e' 9 = some (.int .i64 ((i : Nat) : Int)) → Tr.get e' 10 = some v' → h'.get e = some (.cells (ints E) true 0) → lo ≤ h'.next → DRow lo h' v' l' → l'.length ≤ 1000 → Q (.exit 4) e' h') :
    ∀ (n k : Nat) (h : Heap) (v : AV) (l : List Do3) (env : Env), E.length - k = n → k ≤ E.length → h.get e = some (.cells (ints E) true 0) → lo ≤ h.next → DRow lo h v l → l.length = 4 * k → AllAt env (knE e E.length i v k) →
    VC fs ms B false (.loop L_escapementlaw15_ReadyKnown_2) env h Q := by
  intro n
  induction n using Nat.strongRecOn with
  | ind n ih =>
  intro k h v l env hn hk ge hlo hv hl henv
  refine vc_slots 4 (knE e E.length i v k) henv ?_
  refine vc_loop (z := true) ?_
  unfold knE
  set_option smartUnfolding false in conv => whnf
  refine br (fun hc => ?_) (fun hc => ?_) <;> (try rw [hc]) <;> (set_option smartUnfolding false in conv => whnf)
  · have hlt : k < E.length := by have := of_decide_eq_true hc; omega
    refine ⟨_, idx_slS3 hlt, ?_⟩
    set_option smartUnfolding false in conv => whnf
    refine ⟨_, ld1 ge (ints_at hlt), ?_⟩
    set_option smartUnfolding false in conv => whnf
    refine ⟨_, rem_val _ _ (by omega), ?_⟩
    set_option smartUnfolding false in conv => whnf
    refine ⟨_, idx_slS3 hlt, ?_⟩
    set_option smartUnfolding false in conv => whnf
    refine ⟨_, ld1 ge (ints_at hlt), ?_⟩
    set_option smartUnfolding false in conv => whnf
    refine ⟨_, idx_slS3 hlt, ?_⟩
    set_option smartUnfolding false in conv => whnf
    refine ⟨_, ld1 ge (ints_at hlt), ?_⟩
    set_option smartUnfolding false in conv => whnf
    refine ⟨_, idx_slS3 hlt, ?_⟩
    set_option smartUnfolding false in conv => whnf
    refine ⟨_, ld1 ge (ints_at hlt), ?_⟩
    set_option smartUnfolding false in conv => whnf
    obtain ⟨v', g', a1, a2, a3, a4⟩ := hv.app4 hlo (by omega) [(0, gD E k, 5), (0, ((k : Nat) : Int).tmod 4, gD E k), (2, 0, gD E k), (1, gD E k, 0)] rfl rfl
    refine eff_o a1 fun h1 e1 => ?_
    subst e1
    set_option smartUnfolding false in conv => whnf
    exact ih (E.length - (k + 1)) (by omega) (k + 1) h1 v' _ _ rfl (by omega) (by rw [a4 e he]; exact ge) (by omega) a2 (by rw [List.length_append, hl]; show 4 * k + 4 = _; omega) ⟨rfl, rfl, rfl, inc_slot (by omega), trivial⟩
  · exact hQ _ h v l rfl rfl rfl ge hlo hv (by omega)

theorem known_l1 {e lo : Nat} {E : List Int} (hE : E.length ≤ 100) (he : e < lo) {B : Nat} {Q : AX → Env → Heap → Prop} (hQ : ∀ e' h', Q (.exit 2) e' h') :
    ∀ (n i : Nat) (h : Heap) (env : Env), E.length - i = n → i ≤ E.length → h.get e = some (.cells (ints E) true 0) → lo ≤ h.next → AllAt env [(8, .sl e 0 E.length E.length false), (9, .int .i64 ((i : Nat) : Int))] →
    VC fs ms B false (.loop L_escapementlaw15_ReadyKnown_1) env h Q := by
  intro n
  induction n using Nat.strongRecOn with
  | ind n ih =>
  intro i h env hn hi ge hlo henv
  refine vc_slots 4 [(8, .sl e 0 E.length E.length false), (9, .int .i64 ((i : Nat) : Int))] henv ?_
  refine vc_loopV (vc_seq true ?_)
  set_option smartUnfolding false in conv => whnf
  refine br (fun hc => ?_) (fun hc => ?_) <;> (try rw [hc]) <;> (set_option smartUnfolding false in conv => whnf)
  · have hlt : i < E.length := by have := of_decide_eq_true hc; omega
    refine vc_seqV (vc_block (vc_seq true ?_))
    set_option smartUnfolding false in conv => whnf
    refine vc_seqV (vc_seq true ?_)
    set_option smartUnfolding false in conv => whnf
    refine vc_block ?_
    refine known_l2 (i := i) hE he ?_ _ 0 h .nils [] _ rfl (Nat.zero_le _) ge hlo (.inl ⟨rfl, rfl⟩) rfl ⟨rfl, rfl, rfl, rfl, trivial⟩
    intro e1 h1 v1 l1 g8 g9 g10 ge1 hlo1 hv1 hl1
    show VC fs ms _ _ _ _ _ _
    refine vc_slots 4 [(8, .sl e 0 E.length E.length false), (9, .int .i64 ((i : Nat) : Int)), (10, v1)] ⟨g8, g9, g10, trivial⟩ (vpC_sound (z := true) ?_)
    set_option smartUnfolding false in conv => whnf
    refine ⟨_, idx_slS3 hlt, ?_⟩
    set_option smartUnfolding false in conv => whnf
    refine ⟨_, ld1 ge1 (ints_at hlt), ?_⟩
    set_option smartUnfolding false in conv => whnf
    obtain ⟨z, f⟩ := hv1.frz
    refine vd_view (readyPlays_c (gD E i) z l1 (by omega)) rfl (.cons (.clean rfl) (.cons f .nil)) ?_
    set_option smartUnfolding false in conv => whnf
    refine vpC_sound (z := true) ?_
    set_option smartUnfolding false in conv => whnf
    exact ih (E.length - (i + 1)) (by omega) (i + 1) h1 _ rfl (by omega) ge1 hlo1 ⟨rfl, inc_slot (by omega), trivial⟩
  · exact hQ _ _

def ends15 : List Int := [-9223372036854775808, -1, 0, 1, 2, 3, 4, 5, 1099511627776, 1099511627840, 1099511627841, 9223372036854775807]
theorem readyKnown_c : PC fs ms f_escapementlaw15_ReadyKnown [] (.bool true) := by
  refine pc_of rfl rfl ?_
  generalize hK : (fun (u : AV) (_ : Heap) => u = .bool true) = K
  have hKt : ∀ h, K (.bool true) h := fun h => by subst hK; rfl
  clear hK
  generalize (⟨0, .nil⟩ : Heap) = h0
  refine vd_begin (af := C_escapementlaw15_ReadyKnown) rfl (Nat.le_of_ble_eq_true rfl) ?_
  set_option smartUnfolding false in conv => whnf
  refine vc_seq true ?_
  set_option smartUnfolding false in conv => whnf
  refine vc_seq true ?_
  set_option smartUnfolding false in conv => whnf
  refine vc_seqV (vc_seq true ?_)
  set_option smartUnfolding false in conv => whnf
  refine vc_block ?_
  refine known_l0 ?_ _ 0 h0 .nilp _ rfl (by omega) (.inl rfl) ⟨rfl, rfl, trivial⟩
  intro e1 h1
  show VC fs ms _ _ _ _ _ _
  refine vc_slots 3 [] trivial ?_
  refine vc_seq true ?_
  set_option smartUnfolding false in conv => whnf
  obtain ⟨E, hE⟩ : ∃ E, E = ends15 := ⟨_, rfl⟩
  have hl : E.length = 12 := by rw [hE]; rfl
  have hcells : (ints ends15) = ints E := by rw [hE]
  refine vc_seqV (vc_seq true ?_)
  set_option smartUnfolding false in conv => whnf
  refine vc_block ?_
  refine known_l1 (e := h1.next) (lo := h1.next + 1) (E := E) (by omega) (Nat.lt_succ_self _) ?_ _ 0 _ _ rfl (Nat.zero_le _) ?_ (Nat.le_refl _) ⟨by rw [hl]; rfl, rfl, trivial⟩
  · intro e2 h2
    show VC fs ms _ _ _ _ _ _
    refine vc_slots 3 [] trivial (vpC_sound (z := true) ?_)
    set_option smartUnfolding false in conv => whnf
    refine new_o 0 (fun hb => by omega) fun _ _ h3 q S hq hS fr3 => ?_
    set_option smartUnfolding false in conv => whnf
    refine vd_pure works15_c ?_
    set_option smartUnfolding false in conv => whnf
    refine qput_o hq 0 0 (fun _ => ?_) (fun h => absurd (.inr (Int.le_refl _)) h) (fun h => absurd (.inr (Int.le_refl _)) h) (fun _ i hi hlt => by omega)
    set_option smartUnfolding false in conv => whnf
    exact hKt _
  · rw [← hcells]
    exact get_new_same
end Ir
end Go.Proofs.Ytenafeojcgmnhaa
