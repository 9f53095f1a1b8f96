/-
  The contracts of layer 1, over rows as values: TicksAll.
-/
import Derived.Test.YtflmbknimebmnaaVTicksH
set_option maxRecDepth 100000
set_option linter.unusedSimpArgs false
set_option linter.unusedVariables false
namespace Go.Proofs.Ytflmbknimebmnaa
open Go Ads
namespace Ir

theorem ints_app (a b : List Int) : ints (a ++ b) = ints a ++ ints b := List.map_append ..

theorem last_get {α : Type} {M : List α} {x : α} {n : Nat} (h : M.length = n) : (M ++ [x])[n]? = some x := by subst h; simp

theorem nat_zero (r : Nat) : ((r : Int) == 0) = (true && ((r == 0) && true)) := by
  by_cases h : r = 0
  · subst h; rfl
  · have : ((r : Int) == 0) = false := by rw [beq_eq_false_iff_ne]; omega
    rw [this]
    simp [h]
theorem nat_same (a b : Nat) : ((a : Int) == (b : Int)) = decide (a = b) := by
  by_cases h : a = b
  · subst h; simp
  · have : ((a : Int) == (b : Int)) = false := by rw [beq_eq_false_iff_ne]; omega
    rw [this]
    simp [h]

theorem lcmV {h : Heap} {n : Nat} {L : List Int} {lim : Int} {x : Int × Int} (hL : L.length < 2 ^ 62) (hr : lcmS lim L = x) (hf : Frz (fun _ => True) h (growV n) (.fz (growK n) (ints L)))
    {Q : AV → Heap → Prop} (hq : Q (pr x) h) : VD fs ms f_ticks_Lcm [.int .i64 lim, growV n] h Q :=
  vd_view (hr ▸ lcm_c lim (growK n) L hL) rfl (.cons (.clean rfl) (.cons hf .nil)) hq
theorem sumV {h : Heap} {n : Nat} {L : List Int} {x : Int × Int} (hL : L.length < 2 ^ 62) (hr : sumS L = x) (hf : Frz (fun _ => True) h (growV n) (.fz (growK n) (ints L)))
    {Q : AV → Heap → Prop} (hq : Q (pr x) h) : VD fs ms f_ticks_Sum [growV n] h Q :=
  vd_view (hr ▸ sum_c (growK n) L hL) rfl (.cons hf .nil) hq

theorem all_run {k : Nat} {l : List Int} {ns : List Nat} (hl : l.length < 2 ^ 62) (hN : ns.length = min l.length 10)
    (hns : ∀ (j : Nat) (h1 : j < l.length) (h2 : j < ns.length), IntKind.i64.wrap (1 + bring l[j] 12) = (ns[j] : Nat)) (hn : ∀ n, n ∈ ns → 1 ≤ n ∧ n ≤ 12) :
    PC fs ms f_escapementlaw01_TicksAll [.fz k (ints l)] (.bool true) := by
  obtain ⟨r1, r2, r3, r4, r5⟩ := all_lcm hn
  obtain ⟨s1, s2⟩ := all_sum hn (by omega)
  have hL : (ns.map fun n : Nat => (n : Int)).length = ns.length := List.length_map ..
  have hmin : (bif decide ((4096 : Int) < ((lcmN ns : Nat) : Int)) then (4096 : Int) else ((lcmN ns : Nat) : Int)) = ((min (lcmN ns) 4096 : Nat) : Int) := by
    by_cases h : 4096 < lcmN ns
    · rw [decide_eq_true (show (4096 : Int) < ((lcmN ns : Nat) : Int) by omega), cond_true]; omega
    · rw [decide_eq_false (show ¬ (4096 : Int) < ((lcmN ns : Nat) : Int) by omega), cond_false]; omega
  have hall : ∀ j : Nat, j < lcmN ns → (ns.all fun n => (j + 1) % n == 0) = decide (j + 1 = lcmN ns) := by
    intro j hj
    by_cases h : j + 1 = lcmN ns
    · rw [decide_eq_true h, List.all_eq_true]
      intro n hm
      have := (r5 (lcmN ns)).1 (Nat.dvd_refl _) n hm
      rw [h]
      simpa using Nat.mod_eq_zero_of_dvd this
    · rw [decide_eq_false h, Bool.eq_false_iff]
      intro ha
      rw [List.all_eq_true] at ha
      have := (r5 (j + 1)).2 fun n hm => Nat.dvd_of_mod_eq_zero (by simpa using ha n hm)
      have := Nat.le_of_dvd (by omega) this
      omega
  refine pc_of (by simp [clL, AV.cl, cl_ints]) rfl ?_
  refine vd_start (af := C_escapementlaw01_TicksAll) false rfl (Nat.le_of_ble_eq_true rfl) ?_
  generalize hQ : (fun (u : AV) (_ : Heap) => u = .bool true) = Q
  conv => whnf
  refine vc_to0 7 [(0, .fz k (ints l)), (3, .nils), (4, .int .i64 ((0 : Nat) : Int)), (5, .int .i64 ((0 : Nat) : Int))] (by repeat' (first | exact trivial | refine renAt_sl rfl (by omega) ?_ | refine renAt_ptr rfl (by omega) ?_ | refine renAt_yield rfl (by omega) ?_ | refine renAt_cl rfl (by first | rfl | simp [clL, AV.cl, cl_ints]) ?_ | refine renAt_cl (inc_slot (by omega)) rfl ?_)) ?_
  refine for_rowH 0 7 ns.length (fun _ => True) (fun j => [(0, .fz k (ints l)), (3, growV j), (4, .int .i64 (((ns.take j).sum : Nat) : Int)), (5, .int .i64 (j : Nat))]) (growH (ns.map fun n : Nat => (n : Int))) ?_ ?_ trivial
  · intro j hj _
    have hjl : j < l.length := by omega
    have hw := hns j hjl hj
    have hmem : ns[j] ∈ ns := List.getElem_mem hj
    have hs1 : (ns.take (j + 1)).sum = (ns.take j).sum + ns[j] := by rw [take_next hj, List.sum_append]; simp
    have hs2 : (ns.take (j + 1)).sum ≤ 120 := by
      have := congrArg List.sum (List.take_append_drop (j + 1) ns)
      rw [List.sum_append] at this
      omega
    have hw2 : IntKind.i64.wrap ((((ns.take j).sum : Nat) : Int) + ((ns[j] : Nat) : Int)) = (((ns.take (j + 1)).sum : Nat) : Int) := by
      rw [hs1, Int.natCast_add]
      exact IntWalk.i64_in _ (by omega)
    have hT : (ns.map fun n : Nat => (n : Int)).take (j + 1) = (ns.map fun n : Nat => (n : Int)).take j ++ [((ns[j] : Nat) : Int)] := by
      rw [take_next (by rw [hL]; exact hj)]
      simp
    cases j with
    | zero =>
      conv => whnf
      refine br (fun hc => ?_) (fun hc => ?_) <;> (try rw [hc]) <;> (conv => whnf)
      · refine ⟨_, idx_int hjl, ?_⟩
        conv => whnf
        refine vd_pure (bring_c _ 12 (by omega) (by omega)) ?_
        conv => whnf
        rw [hw]
        refine ⟨_, _, app_nils rfl, ?_⟩
        conv => whnf
        refine ⟨_, idx_sl (j := 0) (by omega), ?_⟩
        conv => whnf
        refine ⟨trivial, fun b => 1, gc_to 7 _ 1 [(0, _)] _ (by
          refine ⟨⟨_, rfl, .cl (by simp [AV.cl, cl_ints])⟩, ⟨_, rfl, .sl (b := 0) (by omega)⟩, ⟨_, congrArg (fun n => some (AV.int .i64 n)) hw2, .cl rfl⟩, ⟨_, rfl, .cl rfl⟩, trivial⟩) ?_ ?_ ?_ ?_⟩
        · refine ⟨by omega, ⟨_, rfl, renB_ints ?_⟩, trivial⟩
          rw [hT]
          rfl
        · intro b c hb hc _; simp at hb hc; omega
        · intro b hb; omega
        · omega
      · exfalso
        have hc' : decide (((0 : Nat) : Int) < ((ints l).length : Nat)) = false := hc
        rw [len_ints] at hc'
        have := of_decide_eq_false hc'
        omega
    | succ j =>
      conv => whnf
      refine br (fun hc => ?_) (fun hc => ?_) <;> (try rw [hc]) <;> (conv => whnf)
      · refine br (fun hc => ?_) (fun hc => ?_) <;> (try rw [hc]) <;> (conv => whnf)
        · refine ⟨_, idx_int hjl, ?_⟩
          conv => whnf
          refine vd_pure (bring_c _ 12 (by omega) (by omega)) ?_
          conv => whnf
          rw [hw]
          refine ⟨_, _, app_open (vs := ints ((ns.map fun n : Nat => (n : Int)).take (j + 1))) rfl (by simp [ints]; omega) (by omega) rfl, ?_⟩
          conv => whnf
          refine ⟨_, idx_sl (j := j + 1) (by omega), ?_⟩
          conv => whnf
          refine op_some (ld1 (v := .int .i64 ((ns[j + 1] : Nat) : Int)) (vs := ints ((ns.map fun n : Nat => (n : Int)).take (j + 1)) ++ [.int .i64 ((ns[j + 1] : Nat) : Int)]) rfl (last_get (by simp [ints]; omega))) ?_
          conv => whnf
          refine ⟨trivial, fun b => 2, gc_to 7 _ 1 [(0, _)] _ (by
            refine ⟨⟨_, rfl, .cl (by simp [AV.cl, cl_ints])⟩, ⟨_, rfl, .sl (b := 0) (by omega)⟩, ⟨_, congrArg (fun n => some (AV.int .i64 n)) hw2, .cl rfl⟩, ⟨_, inc_slot (by omega), .cl rfl⟩, trivial⟩) ?_ ?_ ?_ ?_⟩
          · refine ⟨by omega, ⟨_, rfl, renB_ints ?_⟩, trivial⟩
            rw [hT, ints_app]
            rfl
          · intro b c hb hc _; simp at hb hc; omega
          · intro b hb; omega
          · omega
        · exfalso
          have hc' : decide (((j + 1 : Nat) : Int) < 10) = false := hc
          have := of_decide_eq_false hc'
          omega
      · exfalso
        have hc' : decide (((j + 1 : Nat) : Int) < ((ints l).length : Nat)) = false := hc
        rw [len_ints] at hc'
        have := of_decide_eq_false hc'
        omega
  · intro _
    have hf : Frz (fun _ => True) (growH (ns.map fun n : Nat => (n : Int)) ns.length) (growV ns.length) (.fz (growK ns.length) (ints (ns.map fun n : Nat => (n : Int)))) := grow_frz (P := fun _ => True) trivial _ hL.symm
    have hf0 : Frz (· ∈ [0]) (growH (ns.map fun n : Nat => (n : Int)) ns.length) (growV ns.length) (.fz (growK ns.length) (ints (ns.map fun n : Nat => (n : Int)))) := grow_frz (P := (· ∈ [0])) (by simp) _ hL.symm
    generalize growK ns.length = K at hf hf0
    conv => whnf
    iterate 2 (all_goals (first | (refine br (fun hc => ?_) (fun hc => ?_) <;> (try rw [hc]) <;> (conv => whnf)) | skip))
    · exfalso
      rename_i hc0
      have h0 := of_decide_eq_true hc0
      have h1 := of_decide_eq_true hc
      rw [len_ints] at h0
      omega
    all_goals (
      refine lcmV (by omega) r1 (grow_frz (P := fun _ => True) trivial _ hL.symm) ?_
      conv => whnf
      refine sumV (by omega) s1 (grow_frz (P := fun _ => True) trivial _ hL.symm) ?_
      conv => whnf
      refine br (fun hc => ?_) (fun hc => ?_) <;> (try rw [hc]) <;> (conv => whnf)
      · exfalso
        have hc' : (((ns.sum : Nat) : Int) != ((ns.take ns.length).sum : Nat)) = true := hc
        rw [List.take_length] at hc'
        simp at hc'
      refine br (fun hc => ?_) (fun hc => ?_) <;> (try rw [hc]) <;> (conv => whnf)
      · exfalso
        have h1 : ((lcmN ns : Nat) : Int) < 1 := of_decide_eq_true hc
        omega
      refine vc_frz [0] (i := 3) rfl hf0 ?_
      refine vc_to0 7 [(3, .fz K (ints (ns.map fun n : Nat => (n : Int)))), (6, .int .i64 ((lcmN ns : Nat) : Int)), (10, .int .i64 (((0 + 1 : Nat)) : Int))] (by repeat' (first | exact trivial | refine renAt_sl rfl (by omega) ?_ | refine renAt_ptr rfl (by omega) ?_ | refine renAt_yield rfl (by omega) ?_ | refine renAt_cl rfl (by first | rfl | simp [clL, AV.cl, cl_ints]) ?_ | refine renAt_cl (inc_slot (by omega)) rfl ?_)) ?_
      refine for_row 7 (min (lcmN ns) 4096) (fun _ => True) (fun j => [(3, .fz K (ints (ns.map fun n : Nat => (n : Int)))), (6, .int .i64 ((lcmN ns : Nat) : Int)), (10, .int .i64 (((j + 1 : Nat)) : Int))]) ?_ ?_ trivial
      · intro j hj _
        conv => whnf
        refine br (fun hc => ?_) (fun hc => ?_) <;> (try rw [hc]) <;> (conv => whnf)
        · refine vc_to0 7 [(3, .fz K (ints (ns.map fun n : Nat => (n : Int)))), (6, .int .i64 ((lcmN ns : Nat) : Int)), (10, .int .i64 (((j + 1 : Nat)) : Int)), (11, .bool true), (12, .int .i64 ((0 : Nat) : Int))] (by repeat' (first | exact trivial | refine renAt_sl rfl (by omega) ?_ | refine renAt_ptr rfl (by omega) ?_ | refine renAt_yield rfl (by omega) ?_ | refine renAt_cl rfl (by first | rfl | simp [clL, AV.cl, cl_ints]) ?_ | refine renAt_cl (inc_slot (by omega)) rfl ?_)) ?_
          refine for_row 7 ns.length (fun _ => True) (fun i => [(3, .fz K (ints (ns.map fun n : Nat => (n : Int)))), (6, .int .i64 ((lcmN ns : Nat) : Int)), (10, .int .i64 (((j + 1 : Nat)) : Int)), (11, .bool ((ns.take i).all fun n => (j + 1) % n == 0)), (12, .int .i64 (i : Nat))]) ?_ ?_ trivial
          · intro i hi _
            have hni := hn _ (List.getElem_mem hi)
            have ei : pV (.iaddrS 1) [.fz K (ints (ns.map fun n : Nat => (n : Int))), .int .i64 (i : Nat)] = some (.fp [.int .i64 ((ns[i] : Nat) : Int)] 0) := by
              rw [idx_int (by rw [hL]; exact hi)]
              simp
            have er : pV (.bin .rem) [.int .i64 ((j + 1 : Nat) : Int), .int .i64 ((ns[i] : Nat) : Int)] = some (.int .i64 (((j + 1) % ns[i] : Nat) : Int)) := by
              rw [rem_val _ _ (by omega), Int.ofNat_tmod]
            conv => whnf
            refine br (fun hc => ?_) (fun hc => ?_) <;> (try rw [hc]) <;> (conv => whnf)
            · refine br (fun hc => ?_) (fun hc => ?_) <;> (try rw [hc]) <;> (conv => whnf)
              · refine ⟨_, ei, ?_⟩
                conv => whnf
                refine ⟨_, er, ?_⟩
                conv => whnf
                refine ⟨trivial, ⟨_, rfl, .cl (by simp [AV.cl, cl_ints])⟩, ⟨_, rfl, .cl rfl⟩, ⟨_, rfl, .cl rfl⟩, ⟨_, congrArg (fun b => some (AV.bool b)) ?_, .cl rfl⟩, ⟨_, inc_slot (by omega), .cl rfl⟩, trivial⟩
                rw [take_next hi, List.all_append, hc]
                exact nat_zero ((j + 1) % ns[i])
              · refine ⟨trivial, ⟨_, rfl, .cl (by simp [AV.cl, cl_ints])⟩, ⟨_, rfl, .cl rfl⟩, ⟨_, rfl, .cl rfl⟩, ⟨_, congrArg (fun b => some (AV.bool b)) ?_, .cl rfl⟩, ⟨_, inc_slot (by omega), .cl rfl⟩, trivial⟩
                rw [take_next hi, List.all_append, hc]
                rfl
            · exfalso
              have := of_decide_eq_false hc
              rw [len_ints, hL] at this
              omega
          · intro _
            conv => whnf
            refine br (fun hc => ?_) (fun hc => ?_) <;> (try rw [hc]) <;> (conv => whnf)
            · exfalso
              have := of_decide_eq_true hc
              rw [len_ints, hL] at this
              omega
            · refine br (fun hc => ?_) (fun hc => ?_) <;> (try rw [hc]) <;> (conv => whnf)
              · exfalso
                have hc' : (!(((ns.take ns.length).all fun n => (j + 1) % n == 0) == (((j + 1 : Nat) : Int) == ((lcmN ns : Nat) : Int)))) = true := hc
                rw [List.take_length, hall j (by omega), nat_same] at hc'
                simp at hc'
              · refine ⟨trivial, ⟨_, rfl, .cl (by simp [AV.cl, cl_ints])⟩, ⟨_, rfl, .cl rfl⟩, ⟨_, inc_slot (by omega), .cl rfl⟩, trivial⟩
        · exfalso
          have := of_decide_eq_false hc
          rw [hmin] at this
          omega
      · intro _
        conv => whnf
        refine br (fun hc => ?_) (fun hc => ?_) <;> (try rw [hc]) <;> (conv => whnf)
        · exfalso
          have := of_decide_eq_true hc
          rw [hmin] at this
          omega
        · refine vd_pure (v := pr (0, 10)) ?_ ?_
          · have := lcm_c ((lcmN ns : Nat) - 1) K (ns.map fun n : Nat => (n : Int)) (by omega)
            rw [r2] at this
            rw [show IntKind.i64.wrap ((lcmN ns : Nat) - 1 : Int) = (lcmN ns : Nat) - 1 from IntWalk.i64_in _ (by omega)]
            exact this
          conv => whnf
          refine vd_pure works_c ?_
          conv => whnf
          subst hQ
          rfl)

theorem ticksAll_c (k : Nat) (l : List Int) (hl : l.length < 2 ^ 62) : PC fs ms f_escapementlaw01_TicksAll [.fz k (ints l)] (.bool true) := by
  refine all_run (ns := (l.take 10).map fun x => (1 + bring x 12).toNat) hl (by rw [List.length_map, List.length_take, Nat.min_comm]) ?_ ?_
  · intro j h1 h2
    have h0 : 0 ≤ bring l[j] 12 := Int.emod_nonneg _ (by omega)
    have h3 : bring l[j] 12 < 12 := Int.emod_lt_of_pos _ (by omega)
    rw [IntWalk.i64_in _ (by omega)]
    simp only [List.getElem_map, List.getElem_take]
    omega
  · intro n hm
    obtain ⟨x, _, rfl⟩ := List.mem_map.1 hm
    have h0 : 0 ≤ bring x 12 := Int.emod_nonneg _ (by omega)
    have h3 : bring x 12 < 12 := Int.emod_lt_of_pos _ (by omega)
    omega
end Ir
end Go.Proofs.Ytflmbknimebmnaa
