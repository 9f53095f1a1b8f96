/-
  The contracts of layer 1, over rows as values: TicksKnown.
-/
import Derived.Test.YtflmbknimebmnaaVTicksI
set_option maxRecDepth 100000
set_option linter.unusedSimpArgs false
set_option linter.unusedVariables false
namespace Go.Proofs.Ytflmbknimebmnaa
open Go Ads
namespace Ir

theorem many2_v {lim a b : Int} {h : Heap} {n : Nat} (hn : h.get n = some (.cells [.int .i64 a, .int .i64 b] true 0))
    {Q : AV → Heap → Prop} (hq : Q (.bool true) h) : VD fs ms f_escapementlaw01_TicksMany [.int .i64 lim, .sl n 0 2 2 false] h Q :=
  vd_view (ticksMany_c lim 2 [a, b] (by omega) (by simp)) rfl (.cons (.clean rfl) (.cons (.row (s := 1) trivial hn rfl rfl rfl (Nat.le_refl _) (Nat.le_refl _) (fun _ => rfl) (fun _ => rfl) rfl) .nil)) hq
theorem many0_v {lim : Int} {h : Heap} {Q : AV → Heap → Prop} (hq : Q (.bool true) h) : VD fs ms f_escapementlaw01_TicksMany [.int .i64 lim, .nils] h Q :=
  vd_view (ticksMany_c lim 3 [] (by omega) (by simp)) rfl (.cons (.clean rfl) (.cons .nils .nil)) hq
theorem all_v {l : List Int} {h : Heap} {n m : Nat} {vs : List AV} (hn : h.get n = some (.cells vs true 0)) (hv : vs = flatCells (ints l)) (hm : m = (ints l).length) (hs : allSize 1 (ints l) = true) (hl : l.length < 2 ^ 62)
    {Q : AV → Heap → Prop} (hq : Q (.bool true) h) : VD fs ms f_escapementlaw01_TicksAll [.sl n 0 m m false] h Q :=
  vd_view (ticksAll_c 2 l hl) rfl (.cons (.row (s := 1) trivial hn hv hs hm (Nat.le_refl _) (Nat.le_refl _) (fun _ => rfl) (fun _ => rfl) (cl_ints l)) .nil) hq

def ends : List Int := [-9223372036854775808, -1, 0, 1, 2, 63, 1048576, 1048577, 549755813888, 1099511627775, 1099511627776, 1099511627777, 9223372036854775807]

theorem ticksKnown_c : PC fs ms f_escapementlaw01_TicksKnown [] (.bool true) := by
  refine pc_of rfl rfl ?_
  refine vd_start (af := C_escapementlaw01_TicksKnown) false rfl (Nat.le_of_ble_eq_true rfl) ?_
  generalize hQ : (fun (u : AV) (_ : Heap) => u = .bool true) = Q
  conv => whnf
  obtain ⟨E, hE⟩ : ∃ E : List Int, E = ends := ⟨_, rfl⟩
  have hlen : E.length = 13 := by rw [hE]; rfl
  have hcl : clL (ints E) = true := cl_ints E
  refine vc_frz [0] (i := 1) (v' := .fz 2 (ints E)) rfl (.row (l := ints E) (k := 2) (s := 1) (by simp) rfl (by rw [hE]; rfl) (by rw [hE]; rfl) (by rw [hE]; rfl) (Nat.le_refl _) (Nat.le_refl _) (fun _ => rfl) (fun _ => rfl) hcl) ?_
  refine vc_to0 7 [(1, .fz 2 (ints E)), (2, .int .i64 ((0 : Nat) : Int))] (by repeat' (first | exact trivial | refine renAt_sl rfl (by omega) ?_ | refine renAt_ptr rfl (by omega) ?_ | refine renAt_yield rfl (by omega) ?_ | refine renAt_cl rfl (by first | rfl | simp [clL, AV.cl, cl_ints]) ?_ | refine renAt_cl (inc_slot (by omega)) rfl ?_)) ?_
  refine for_row 7 E.length (fun _ => True) (fun i => [(1, .fz 2 (ints E)), (2, .int .i64 (i : Nat))]) ?_ ?_ trivial
  · intro i hi _
    conv => whnf
    refine br (fun hc => ?_) (fun hc => ?_) <;> (try rw [hc]) <;> (conv => whnf)
    · refine vc_to0 7 [(1, .fz 2 (ints E)), (2, .int .i64 (i : Nat)), (3, .int .i64 ((0 : Nat) : Int))] (by repeat' (first | exact trivial | refine renAt_sl rfl (by omega) ?_ | refine renAt_ptr rfl (by omega) ?_ | refine renAt_yield rfl (by omega) ?_ | refine renAt_cl rfl (by first | rfl | simp [clL, AV.cl, cl_ints]) ?_ | refine renAt_cl (inc_slot (by omega)) rfl ?_)) ?_
      refine for_row 7 E.length (fun _ => True) (fun j => [(1, .fz 2 (ints E)), (2, .int .i64 (i : Nat)), (3, .int .i64 (j : Nat))]) ?_ ?_ trivial
      · intro j hj _
        conv => whnf
        refine br (fun hc => ?_) (fun hc => ?_) <;> (try rw [hc]) <;> (conv => whnf)
        · refine ⟨_, idx_int hi, ?_⟩
          conv => whnf
          refine ⟨_, idx_int hj, ?_⟩
          conv => whnf
          refine vd_pure (ticksTwo_c _ _) ?_
          conv => whnf
          refine ⟨_, idx_int hi, ?_⟩
          conv => whnf
          refine ⟨_, idx_int hj, ?_⟩
          conv => whnf
          refine many2_v rfl ?_
          conv => whnf
          refine ⟨_, idx_int hi, ?_⟩
          conv => whnf
          refine ⟨_, idx_int hj, ?_⟩
          conv => whnf
          refine many2_v rfl ?_
          conv => whnf
          refine ⟨trivial, ⟨_, rfl, .cl hcl⟩, ⟨_, rfl, .cl rfl⟩, ⟨_, inc_slot (by omega), .cl rfl⟩, trivial⟩
        · exfalso
          have := of_decide_eq_false hc
          rw [len_ints] at this
          omega
      · intro _
        conv => whnf
        refine br (fun hc => ?_) (fun hc => ?_) <;> (try rw [hc]) <;> (conv => whnf)
        · exfalso
          have := of_decide_eq_true hc
          rw [len_ints] at this
          omega
        · refine ⟨trivial, ⟨_, rfl, .cl hcl⟩, ⟨_, inc_slot (by omega), .cl rfl⟩, trivial⟩
    · exfalso
      have := of_decide_eq_false hc
      rw [len_ints] at this
      omega
  · intro _
    conv => whnf
    refine br (fun hc => ?_) (fun hc => ?_) <;> (try rw [hc]) <;> (conv => whnf)
    · exfalso
      have := of_decide_eq_true hc
      rw [len_ints] at this
      omega
    · refine vd_pure works_c ?_
      conv => whnf
      refine many0_v ?_
      conv => whnf
      refine many0_v ?_
      conv => whnf
      refine many0_v ?_
      conv => whnf
      refine all_v (l := [6, 8, 9, 11, 10]) rfl rfl rfl rfl (by simp) ?_
      conv => whnf
      subst hQ
      rfl
end Ir
end Go.Proofs.Ytflmbknimebmnaa
