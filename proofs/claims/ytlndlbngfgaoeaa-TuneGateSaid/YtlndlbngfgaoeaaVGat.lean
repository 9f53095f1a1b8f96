/-
  Gate: what a configuration may be. Gate: what a configuration may be; who is asked. Gate: who is asked; whether servers share too much. Gate: Test. Gate: Join.
-/
import Derived.Test.YtlndlbngfgaoeaaZA
import Derived.Test.YtlndlbngfgaoeaaVTunF
import Derived.Test.YtlndlbngfgaoeaaVsPre
import Derived.Test.YtlndlbngfgaoeaaVLocM
set_option maxRecDepth 100000
set_option linter.unusedSimpArgs false
set_option linter.unusedVariables false
namespace Go.Proofs.Ytlndlbngfgaoeaa
open Go Ads
namespace Ir

theorem ixfP_c {F : Nat} {capt : List AV} {p : Pt → Bool} (k : Nat) (l : List Pt) (hl : l.length < 2 ^ 62) (hcap : clL capt = true) (hp : ∀ m, m ∈ l → PC fs ms F (pt m :: capt) (.bool (p m))) :
  ∃ n : Int, PC fs ms f_slices_IndexFunc_api_Part_api_Part [.fz k (pts l), .func (.func F) [] capt] (.int .i64 n) ∧ decide (n ≥ 0) = l.any p := by
 by_cases ha : l.any p = true
 ·obtain ⟨j, hj, h1, h2⟩ := least_get (l := l) (p := fun m => p m = true) (by simpa using ha)
  refine ⟨(j : Nat), ?_, by rw [ha]; simp⟩
  refine pc_of (by simp [clL, AV.cl, cl_pts, hcap]) rfl ?_
  refine vd_start (af := C_slices_IndexFunc_api_Part_api_Part) false rfl (Nat.le_of_ble_eq_true rfl) ?_
  generalize hQ : (fun (v : AV) (_ : Heap) => v = .int .i64 (j : Nat)) = Q
  conv => whnf
  refine vc_to0 5 [(0, .fz k (pts l)), (1, .func (.func F) [] capt), (7, .int .i64 (pts l).length), (8, .int .i64 ((0 : Nat) : Int))] (by repeat' (first | exact trivial | refine renAt_sl rfl (by omega) ?_ | refine renAt_ptr rfl (by omega) ?_ | refine renAt_yield rfl (by omega) ?_ | refine renAt_cl rfl (by first | rfl | simp [clL, AV.cl, cl_ints, cl_pts, hcap]) ?_ | refine renAt_cl (inc_slot (by omega)) rfl ?_)) ?_
  refine for_row 5 j (fun _ => True) (fun i => [(0, .fz k (pts l)), (1, .func (.func F) [] capt), (7, .int .i64 (pts l).length), (8, .int .i64 (i : Nat))]) ?_ ?_ trivial
  ·intro i hi _
   conv => whnf
   refine br (fun hc => ?_) (fun hc => ?_) <;> (try rw [hc]) <;> (conv => whnf)
   ·refine ⟨_, idx_pt (by omega), ?_⟩
    conv => whnf
    refine vd_pure (hp _ (List.getElem_mem _)) ?_
    conv => whnf
    refine br (fun hc => ?_) (fun hc => ?_) <;> (try rw [hc]) <;> (conv => whnf)
    ·exact absurd hc (h2 i (by omega) hi)
    ·refine ⟨trivial, ⟨_, rfl, .cl (by simp [AV.cl, cl_pts])⟩, ⟨_, rfl, .cl (by simp [AV.cl, clL, hcap])⟩, ⟨_, rfl, .cl rfl⟩, ⟨_, inc_slot (by omega), .cl rfl⟩, trivial⟩
   ·exfalso
    have := of_decide_eq_false hc
    rw [len_pts] at this
    omega
  ·intro _
   conv => whnf
   refine br (fun hc => ?_) (fun hc => ?_) <;> (try rw [hc]) <;> (conv => whnf)
   ·refine ⟨_, idx_pt hj, ?_⟩
    conv => whnf
    refine vd_pure (hp _ (List.getElem_mem _)) ?_
    conv => whnf
    refine br (fun hc => ?_) (fun hc => ?_) <;> (try rw [hc]) <;> (conv => whnf)
    ·subst hQ
     rfl
    ·rw [h1] at hc; simp at hc
   ·exfalso
    have := of_decide_eq_false hc
    rw [len_pts] at this
    omega
 ·have hn : ∀ m, m ∈ l → p m = false := by
   intro m hm
   rw [Bool.eq_false_iff]
   intro h
   exact ha (List.any_eq_true.2 ⟨m, hm, h⟩)
  refine ⟨-1, ?_, by rw [Bool.eq_false_iff.2 ha]; decide⟩
  refine pc_of (by simp [clL, AV.cl, cl_pts, hcap]) rfl ?_
  refine vd_start (af := C_slices_IndexFunc_api_Part_api_Part) false rfl (Nat.le_of_ble_eq_true rfl) ?_
  generalize hQ : (fun (v : AV) (_ : Heap) => v = .int .i64 (-1)) = Q
  conv => whnf
  refine vc_to0 5 [(0, .fz k (pts l)), (1, .func (.func F) [] capt), (7, .int .i64 (pts l).length), (8, .int .i64 ((0 : Nat) : Int))] (by repeat' (first | exact trivial | refine renAt_sl rfl (by omega) ?_ | refine renAt_ptr rfl (by omega) ?_ | refine renAt_yield rfl (by omega) ?_ | refine renAt_cl rfl (by first | rfl | simp [clL, AV.cl, cl_ints, cl_pts, hcap]) ?_ | refine renAt_cl (inc_slot (by omega)) rfl ?_)) ?_
  refine for_row 5 l.length (fun _ => True) (fun i => [(0, .fz k (pts l)), (1, .func (.func F) [] capt), (7, .int .i64 (pts l).length), (8, .int .i64 (i : Nat))]) ?_ ?_ trivial
  ·intro i hi _
   conv => whnf
   refine br (fun hc => ?_) (fun hc => ?_) <;> (try rw [hc]) <;> (conv => whnf)
   ·refine ⟨_, idx_pt (by omega), ?_⟩
    conv => whnf
    refine vd_pure (hp _ (List.getElem_mem _)) ?_
    conv => whnf
    refine br (fun hc => ?_) (fun hc => ?_) <;> (try rw [hc]) <;> (conv => whnf)
    ·rw [hn _ (List.getElem_mem hi)] at hc; simp at hc
    ·refine ⟨trivial, ⟨_, rfl, .cl (by simp [AV.cl, cl_pts])⟩, ⟨_, rfl, .cl (by simp [AV.cl, clL, hcap])⟩, ⟨_, rfl, .cl rfl⟩, ⟨_, inc_slot (by omega), .cl rfl⟩, trivial⟩
   ·exfalso
    have := of_decide_eq_false hc
    rw [len_pts] at this
    omega
  ·intro _
   conv => whnf
   refine br (fun hc => ?_) (fun hc => ?_) <;> (try rw [hc]) <;> (conv => whnf)
   ·exfalso
    have := of_decide_eq_true hc
    rw [len_pts] at this
    omega
   ·subst hQ
    rfl

theorem cfP_c {F : Nat} {capt : List AV} {p : Pt → Bool} (k : Nat) (l : List Pt) (hl : l.length < 2 ^ 62) (hcap : clL capt = true) (hp : ∀ m, m ∈ l → PC fs ms F (pt m :: capt) (.bool (p m))) :
  PC fs ms f_slices_ContainsFunc_api_Part_api_Part [.fz k (pts l), .func (.func F) [] capt] (.bool (l.any p)) := by
 obtain ⟨n, c1, c2⟩ := ixfP_c k l hl hcap hp
 refine pc_of (by simp [clL, AV.cl, cl_pts, hcap]) rfl ?_
 refine vd_start (af := C_slices_ContainsFunc_api_Part_api_Part) false rfl (Nat.le_of_ble_eq_true rfl) ?_
 generalize hQ : (fun (v : AV) (_ : Heap) => v = .bool (l.any p)) = Q
 conv => whnf
 refine vd_pure c1 ?_
 conv => whnf
 subst hQ
 exact congrArg AV.bool c2

theorem cfO_c {F : Nat} {capt : List AV} (hcap : clL capt = true) : PC fs ms f_slices_ContainsFunc_api_Port_api_Port [.nils, .func (.func F) [] capt] (.bool false) := by
 refine pc_of (by simp [clL, AV.cl, hcap]) rfl ?_
 refine vd_start (af := C_slices_ContainsFunc_api_Port_api_Port) false rfl (Nat.le_of_ble_eq_true rfl) ?_
 generalize hQ : (fun (v : AV) (_ : Heap) => v = .bool false) = Q
 conv => whnf
 refine vd_start (af := C_slices_IndexFunc_api_Port_api_Port) false rfl (Nat.le_of_ble_eq_true rfl) ?_
 conv => whnf
 refine vc_loop (z := false) ?_
 conv => whnf
 subst hQ
 rfl

def inB (n a b : Int) : Bool := decide (a ≤ n) && decide (n ≤ b)
theorem inB_iff {n a b : Int} : inB n a b = true ↔ a ≤ n ∧ n ≤ b := by simp [inB]
theorem inB_no {n a b : Int} : inB n a b = false ↔ ¬ (a ≤ n ∧ n ≤ b) := by rw [← Bool.not_eq_true, inB_iff]
theorem within_c (n a b : Int) : PC fs ms f_conf_within [.int .i64 n, .int .i64 a, .int .i64 b] (.bool (inB n a b)) := by
 refine pc_of rfl rfl ?_
 refine vd_start (af := C_conf_within) false rfl (Nat.le_of_ble_eq_true rfl) ?_
 generalize hQ : (fun (v : AV) (_ : Heap) => v = .bool (inB n a b)) = Q
 conv => whnf
 by_cases h : a ≤ n
 ·refine brt (by simpa using h) (fun hc => ?_)
  (try rw [hc])
  conv => whnf
  subst hQ
  rw [inB, decide_eq_true h, Bool.true_and]
 ·refine brf (by simpa using h) (fun hc => ?_)
  (try rw [hc])
  conv => whnf
  subst hQ
  rw [inB, decide_eq_false h, Bool.false_and]

def mayC (t : Tk) (B : Int) : Bool := inB t.p 1 64 && inB t.d 1 t.p && inB t.w 1 t.d && inB t.a 0 255 && inB t.c 0 4 && !(decide (t.a = 0) && !decide (t.b = 0)) && (decide (t.a = 0) || inB t.b 1 t.w) &&
 (if t.c = 0 then decide (t.e = 0) && decide (t.f = 0) else inB t.e 1 (min B t.w) && inB t.f 1 (t.w / t.e))

theorem taskMay_c (t : Tk) (B : Int) : PC fs ms f_conf_taskMay [tk t, .int .i64 B] (.bool (mayC t B)) := by
 refine pc_of rfl rfl ?_
 refine vd_start (af := C_conf_taskMay) false rfl (Nat.le_of_ble_eq_true rfl) ?_
 generalize hQ : (fun (v : AV) (_ : Heap) => v = .bool (mayC t B)) = Q
 conv => whnf
 refine vd_pure (within_c t.p 1 64) ?_
 cases c1 : inB t.p 1 64 with
 | false =>
  conv => whnf
  subst hQ
  simp [mayC, c1]
 | true =>
 conv => whnf
 refine vd_pure (within_c t.d 1 t.p) ?_
 cases c2 : inB t.d 1 t.p with
 | false =>
  conv => whnf
  subst hQ
  simp [mayC, c2]
 | true =>
 conv => whnf
 refine vd_pure (within_c t.w 1 t.d) ?_
 cases c3 : inB t.w 1 t.d with
 | false =>
  conv => whnf
  subst hQ
  simp [mayC, c3]
 | true =>
 conv => whnf
 refine vd_pure (within_c t.a 0 255) ?_
 cases c4 : inB t.a 0 255 with
 | false =>
  conv => whnf
  subst hQ
  simp [mayC, c4]
 | true =>
 conv => whnf
 refine vd_pure (within_c t.c 0 4) ?_
 cases c5 : inB t.c 0 4 with
 | false =>
  conv => whnf
  subst hQ
  simp [mayC, c5]
 | true =>
 conv => whnf
 have h1 := inB_iff.1 c1
 have h2 := inB_iff.1 c2
 have h3 := inB_iff.1 c3
 have hpre : mayC t B = (!(decide (t.a = 0) && !decide (t.b = 0)) && (decide (t.a = 0) || inB t.b 1 t.w) && (if t.c = 0 then decide (t.e = 0) && decide (t.f = 0) else inB t.e 1 (min B t.w) && inB t.f 1 (t.w / t.e))) := by
  simp only [mayC, c1, c2, c3, c4, c5, Bool.true_and]
 have hend : ∀ Q' : AV → Heap → Prop, (!(decide (t.a = 0) && !decide (t.b = 0)) && (decide (t.a = 0) || inB t.b 1 t.w)) = true → mayC t B = (if t.c = 0 then decide (t.e = 0) && decide (t.f = 0) else inB t.e 1 (min B t.w) && inB t.f 1 (t.w / t.e)) := by
  intro _ h
  rw [hpre, h, Bool.true_and]
 have hmn : (bif decide (t.w < B) then t.w else B) = min B t.w := by
  by_cases h : t.w < B
  ·rw [decide_eq_true h, cond_true]; omega
  ·rw [decide_eq_false h, cond_false]; omega
 by_cases a0 : t.a = 0
 ·refine brt (by simpa using a0) (fun hc => ?_)
  (try rw [hc])
  conv => whnf
  by_cases b0 : t.b = 0
  ·refine brf (by simpa using b0) (fun hc => ?_)
   (try rw [hc])
   conv => whnf
   refine brf (by simpa using a0) (fun hc => ?_)
   (try rw [hc])
   conv => whnf
   have he := hend Q (by rw [decide_eq_true a0, decide_eq_true b0]; rfl)
   by_cases g0 : t.c = 0
   ·refine brt (by simpa using g0) (fun hc => ?_)
    (try rw [hc])
    conv => whnf
    rw [if_pos g0] at he
    by_cases e0 : t.e = 0
    ·refine brt (by simpa using e0) (fun hc => ?_)
     (try rw [hc])
     conv => whnf
     subst hQ
     rw [he, decide_eq_true e0, Bool.true_and]
     exact congrArg AV.bool (by rw [Bool.eq_iff_iff]; simp)
    ·refine brf (by simpa using e0) (fun hc => ?_)
     (try rw [hc])
     conv => whnf
     subst hQ
     rw [he, decide_eq_false e0, Bool.false_and]
   ·refine brf (by simpa using g0) (fun hc => ?_)
    (try rw [hc])
    conv => whnf
    rw [if_neg g0] at he
    rw [hmn]
    refine vd_pure (within_c t.e 1 (min B t.w)) ?_
    cases c7 : inB t.e 1 (min B t.w) with
    | false =>
     conv => whnf
     subst hQ
     rw [he, c7, Bool.false_and]
    | true =>
     have h7 := inB_iff.1 c7
     conv => whnf
     refine ⟨_, quo_val _ _ (by omega), ?_⟩
     conv => whnf
     rw [show IntKind.i64.wrap (t.w.tdiv t.e) = t.w / t.e from IntWalk.i64_quo _ _ (by omega)]
     refine vd_pure (within_c t.f 1 (t.w / t.e)) ?_
     conv => whnf
     subst hQ
     rw [he, c7, Bool.true_and]
  ·refine brt (by simpa using b0) (fun hc => ?_)
   (try rw [hc])
   conv => whnf
   subst hQ
   rw [hpre, decide_eq_true a0, decide_eq_false b0]
   rfl
 ·refine brf (by simpa using a0) (fun hc => ?_)
  (try rw [hc])
  conv => whnf
  refine brt (by simpa using a0) (fun hc => ?_)
  (try rw [hc])
  conv => whnf
  refine vd_pure (within_c t.b 1 t.w) ?_
  cases c6 : inB t.b 1 t.w with
  | false =>
   conv => whnf
   subst hQ
   rw [hpre, c6, decide_eq_false a0]
   rfl
  | true =>
   conv => whnf
   have he := hend Q (by rw [c6, decide_eq_false a0]; rfl)
   by_cases g0 : t.c = 0
   ·refine brt (by simpa using g0) (fun hc => ?_)
    (try rw [hc])
    conv => whnf
    rw [if_pos g0] at he
    by_cases e0 : t.e = 0
    ·refine brt (by simpa using e0) (fun hc => ?_)
     (try rw [hc])
     conv => whnf
     subst hQ
     rw [he, decide_eq_true e0, Bool.true_and]
     exact congrArg AV.bool (by rw [Bool.eq_iff_iff]; simp)
    ·refine brf (by simpa using e0) (fun hc => ?_)
     (try rw [hc])
     conv => whnf
     subst hQ
     rw [he, decide_eq_false e0, Bool.false_and]
   ·refine brf (by simpa using g0) (fun hc => ?_)
    (try rw [hc])
    conv => whnf
    rw [if_neg g0] at he
    rw [hmn]
    refine vd_pure (within_c t.e 1 (min B t.w)) ?_
    cases c7 : inB t.e 1 (min B t.w) with
    | false =>
     conv => whnf
     subst hQ
     rw [he, c7, Bool.false_and]
    | true =>
     have h7 := inB_iff.1 c7
     conv => whnf
     refine ⟨_, quo_val _ _ (by omega), ?_⟩
     conv => whnf
     rw [show IntKind.i64.wrap (t.w.tdiv t.e) = t.w / t.e from IntWalk.i64_quo _ _ (by omega)]
     refine vd_pure (within_c t.f 1 (t.w / t.e)) ?_
     conv => whnf
     subst hQ
     rw [he, c7, Bool.true_and]
end Ir
end Go.Proofs.Ytlndlbngfgaoeaa
set_option maxRecDepth 100000
set_option linter.unusedSimpArgs false
set_option linter.unusedVariables false
namespace Go.Proofs.Ytlndlbngfgaoeaa
open Go Ads
namespace Ir

theorem partMay1_c (t : Tk) (x : Pt) : PC fs ms f_conf_partMay_1 [tk t, .fp (pt x).cells 0] (.bool (!mayC t x.bud)) := by
 refine pc_of (by simp [clL, AV.cl, pt, AV.cells, cl_tks, tk]) rfl ?_
 refine vd_start (af := C_conf_partMay_1) false rfl (Nat.le_of_ble_eq_true rfl) ?_
 generalize hQ : (fun (v : AV) (_ : Heap) => v = .bool (!mayC t x.bud)) = Q
 conv => whnf
 refine vd_pure (taskMay_c t x.bud) ?_
 conv => whnf
 subst hQ
 rfl

def partC (x : Pt) : Bool := inB x.per 1 64 && inB x.bud 1 x.per && decide (x.ts.length ≤ 4) && x.ts.all fun t => mayC t x.bud

theorem anyNot {α : Type} (l : List α) (p : α → Bool) : (l.any fun x => !p x) = !l.all p := by
 induction l with
 | nil => rfl
 | cons x l ih => simp only [List.any_cons, List.all_cons, ih, Bool.not_and]
theorem partMay_c (x : Pt) (hx : x.ts.length ≤ 17592186044416) : PC fs ms f_conf_partMay [pt x] (.bool (partC x)) := by
 refine pc_of (by simp [clL, cl_pt]) rfl ?_
 refine vd_begin (af := C_conf_partMay) rfl (Nat.le_of_ble_eq_true rfl) ?_
 generalize hQ : (fun (v : AV) (_ : Heap) => v = .bool (partC x)) = Q
 conv => whnf
 refine vc_seq false ?_
 conv => whnf
 refine vc_frz [0] (i := 1) (v' := .fp (pt x).cells 0) rfl (.ptr' (by simp) rfl (.clean (show clL (pt x).cells = true by simp [pt, AV.cells, clL, AV.cl, cl_tks]))) ?_
 refine vc_to0 5 [(1, .fp (pt x).cells 0)] ?_ ?_
 ·exact ⟨⟨_, rfl, .cl (by simp [AV.cl, clL, pt, AV.cells, cl_tks])⟩, trivial⟩
 refine vpC_sound (z := false) ?_
 have h1 := cfT_c (F := f_conf_partMay_1) (capt := [.fp (pt x).cells 0]) (p := fun t => !mayC t x.bud) x.k x.ts (by omega) (by simp [clL, AV.cl, pt, AV.cells, cl_tks]) (fun m _ => partMay1_c m x)
 rw [anyNot] at h1
 conv => whnf
 refine vd_pure (within_c x.per 1 64) ?_
 cases c1 : inB x.per 1 64 with
 | false =>
  conv => whnf
  subst hQ
  simp [partC, c1]
 | true =>
 conv => whnf
 refine vd_pure (within_c x.bud 1 x.per) ?_
 cases c2 : inB x.bud 1 x.per with
 | false =>
  conv => whnf
  subst hQ
  simp [partC, c1, c2]
 | true =>
 conv => whnf
 by_cases h4 : x.ts.length ≤ 4
 ·refine brf (by rw [len_tks]; simp; omega) (fun hc => ?_)
  (try rw [hc])
  conv => whnf
  refine vd_pure h1 ?_
  conv => whnf
  subst hQ
  simp [partC, c1, c2, h4]
 ·refine brt (by rw [len_tks]; simp; omega) (fun hc => ?_)
  (try rw [hc])
  conv => whnf
  subst hQ
  simp [partC, c1, c2, h4]

theorem confOne_c (x : Pt) (hx : x.ts.length ≤ 17592186044416) : PC fs ms f_conf_Check_1 [pt x] (.bool (!partC x)) := by
 refine pc_of (by simp [clL, cl_pt]) rfl ?_
 refine vd_start (af := C_conf_Check_1) false rfl (Nat.le_of_ble_eq_true rfl) ?_
 generalize hQ : (fun (v : AV) (_ : Heap) => v = .bool (!partC x)) = Q
 conv => whnf
 refine vd_pure (partMay_c x hx) ?_
 conv => whnf
 subst hQ
 rfl

def confC (L : List Pt) : Bool := L.all partC && decide (1 ≤ L.length) && decide (L.length ≤ 4)
def cfg (k : Nat) (L : List Pt) : AV := .agg [.fz k (pts L), .nils]
theorem cl_cfg (k : Nat) (L : List Pt) : (cfg k L).cl = true := by simp [cfg, AV.cl, clL, cl_pts]
theorem confCheck_c (k : Nat) (L : List Pt) (hs : Small L) : PC fs ms f_conf_Check [cfg k L] (.int .i64 (if confC L = true then 0 else 50)) := by
 refine pc_of (by simp [clL, cl_cfg]) rfl ?_
 refine vd_begin (af := C_conf_Check) rfl (Nat.le_of_ble_eq_true rfl) ?_
 generalize hQ : (fun (v : AV) (_ : Heap) => v = .int .i64 (if confC L = true then 0 else 50)) = Q
 conv => whnf
 refine vc_seq false ?_
 conv => whnf
 refine vc_frz [0] (i := 1) (v' := .fp [.fz k (pts L), .nils] 0) rfl (.ptr' (by simp) rfl (.clean (by simp [cfg, AV.cells, clL, AV.cl, cl_pts]))) ?_
 refine vc_to0 5 [(1, .fp [.fz k (pts L), .nils] 0)] ?_ ?_
 ·exact ⟨⟨_, rfl, .cl (by simp [AV.cl, clL, cl_pts])⟩, trivial⟩
 refine vpC_sound (z := false) ?_
 have h1 := cfP_c (F := f_conf_Check_1) (capt := []) (p := fun x => !partC x) k L (by have := hs.1; omega) rfl (fun m hm => confOne_c m (hs.2 m hm))
 rw [anyNot] at h1
 have hC : confC L = (L.all partC && decide (1 ≤ L.length) && decide (L.length ≤ 4)) := rfl
 conv => whnf
 refine vd_pure h1 ?_
 cases c1 : L.all partC with
 | false =>
  conv => whnf
  subst hQ
  rw [hC, c1]
  rfl
 | true =>
 conv => whnf
 refine vd_pure (cfO_c (capt := [.fp [.fz k (pts L), .nils] 0]) (by simp [AV.cl, clL, cl_pts])) ?_
 conv => whnf
 rw [len_pts]
 refine vd_pure (within_c _ 1 4) ?_
 cases c2 : inB ((L.length : Nat) : Int) 1 4 with
 | false =>
  conv => whnf
  subst hQ
  have : confC L = false := by
   rw [inB_no] at c2
   rw [hC, c1]
   simp
   omega
  rw [this]
  rfl
 | true =>
  conv => whnf
  subst hQ
  have : confC L = true := by
   rw [inB_iff] at c2
   rw [hC, c1]
   simp
   omega
  rw [this]
  rfl
end Ir
end Go.Proofs.Ytlndlbngfgaoeaa
set_option maxRecDepth 100000
set_option linter.unusedSimpArgs false
set_option linter.unusedVariables false
namespace Go.Proofs.Ytlndlbngfgaoeaa
open Go Ads
namespace Ir

def bls (l : List Bool) : List AV := l.map AV.bool
theorem cl_bls (l : List Bool) : clL (bls l) = true := clL_map (enc := AV.bool) (fun _ => rfl) l
theorem len_bls (l : List Bool) : (bls l).length = l.length := List.length_map ..
theorem size_bls (l : List Bool) : allSize 1 (bls l) = true := allSize_map (enc := AV.bool) (fun _ => rfl) l
theorem idx_bl {l : List Bool} {j k : Nat} (hj : j < l.length) : pV (.iaddrS 1) [.fz k (bls l), .int .i64 (j : Nat)] = some (.fp [.bool l[j]] 0) := idx_map (enc := AV.bool) hj rfl

def askedS (L : List Pt) (w : List Bool) : Int := if confC L = true then (if w.length = L.length then 0 else 2) else 50
theorem asked_c (k kw : Nat) (L : List Pt) (w : List Bool) (hs : Small L) : PC fs ms f_gate_asked [cfg k L, .fz kw (bls w)] (.int .i64 (askedS L w)) := by
 refine pc_of (by simp [clL, cl_cfg, AV.cl, cl_bls]) rfl ?_
 refine vd_start (af := C_gate_asked) false rfl (Nat.le_of_ble_eq_true rfl) ?_
 generalize hQ : (fun (v : AV) (_ : Heap) => v = .int .i64 (askedS L w)) = Q
 have hc := confCheck_c k L hs
 conv => whnf
 by_cases h : confC L = true
 ·rw [if_pos h] at hc
  refine vd_pure (v := .int .i64 0) hc ?_
  conv => whnf
  by_cases hl : w.length = L.length
  ·refine brf (by rw [len_bls, len_pts, hl]; simp) (fun hc => ?_)
   (try rw [hc])
   conv => whnf
   subst hQ
   rw [askedS, if_pos h, if_pos hl]
  ·refine brt (by rw [len_bls, len_pts]; simp; omega) (fun hc => ?_)
   (try rw [hc])
   conv => whnf
   subst hQ
   rw [askedS, if_pos h, if_neg hl]
 ·rw [if_neg h] at hc
  refine vd_pure (v := .int .i64 50) hc ?_
  conv => whnf
  subst hQ
  rw [askedS, if_neg h]

theorem above_c (a b : Int) : PC fs ms f_share_fraction_int_above [.agg [.int .i64 a, .int .i64 b]] (.bool (decide (b < a))) := by
 refine pc_of rfl rfl ?_
 refine vd_start (af := C_share_fraction_int_above) false rfl (Nat.le_of_ble_eq_true rfl) ?_
 generalize hQ : (fun (v : AV) (_ : Heap) => v = .bool (decide (b < a))) = Q
 conv => whnf
 by_cases h : b < a
 ·refine brt (by simpa using h) (fun hc => ?_)
  (try rw [hc])
  conv => whnf
  have he : ∀ (a : Int), eqCells [0, 0] [.int .i64 a, .int .i64 b] [.int .i64 1, .int .i64 1] = some (decide (a = 1) && decide (b = 1)) := by
   intro a
   have hb : ∀ x : Int, (x == 1) = decide (x = 1) := fun x => by rw [Bool.eq_iff_iff]; simp
   by_cases h1 : a = 1 <;> by_cases h2 : b = 1 <;> simp [eqCells, eqOne, hb, h1, h2]
  refine op_some (v := .bool (!(decide (a = 1) && decide (b = 1)))) (by show (eqCells [0, 0] [.int .i64 a, .int .i64 b] [.int .i64 1, .int .i64 1]).map (fun b => AV.bool !b) = _; rw [he]; rfl) ?_
  conv => whnf
  subst hQ
  have : (decide (a = 1) && decide (b = 1)) = false := by simp; omega
  rw [this, decide_eq_true h]
  rfl
 ·refine brf (by simpa using h) (fun hc => ?_)
  (try rw [hc])
  conv => whnf
  subst hQ
  rw [decide_eq_false h]

def shareT (L : List Pt) : Int := if (sumR L).2 = true then (if (sumR L).1.2 < (sumR L).1.1 then 120 else 0) else 2
theorem shareTest_c (k : Nat) (L : List Pt) (hs : Small L) : PC fs ms f_share_Test [.fz k (pts L)] (.int .i64 (shareT L)) := by
 refine pc_of (by simp [clL, AV.cl, cl_pts]) rfl ?_
 refine vd_start (af := C_share_Test) false rfl (Nat.le_of_ble_eq_true rfl) ?_
 generalize hQ : (fun (v : AV) (_ : Heap) => v = .int .i64 (shareT L)) = Q
 have hc := shareSum_c k L hs
 unfold shareT at hQ
 generalize sumR L = q at *
 obtain ⟨⟨qa, qb⟩, o⟩ := q
 conv => whnf
 refine vd_pure (v := .tup [.agg [.int .i64 qa, .int .i64 qb], .bool o]) hc ?_
 conv => whnf
 cases o with
 | false =>
  conv => whnf
  subst hQ
  rfl
 | true =>
  conv => whnf
  refine vd_pure (above_c qa qb) ?_
  by_cases h : qb < qa
  ·rw [decide_eq_true h]
   conv => whnf
   subst hQ
   simp [h]
  ·rw [decide_eq_false h]
   conv => whnf
   subst hQ
   simp [h]
end Ir
end Go.Proofs.Ytlndlbngfgaoeaa
set_option maxRecDepth 100000
set_option linter.unusedSimpArgs false
set_option linter.unusedVariables false
namespace Go.Proofs.Ytlndlbngfgaoeaa
open Go Ads
namespace Ir

def selP (L : List Pt) (w : List Bool) : Nat → List Pt
 | 0 => []
 | j + 1 => match L[j]?, w[j]? with
  | some x, some true => selP L w j ++ [x]
  | _, _ => selP L w j
def selJ (w : List Bool) : Nat → List Int
 | 0 => []
 | j + 1 => match w[j]? with
  | some true => selJ w j ++ [((j : Nat) : Int)]
  | _ => selJ w j
theorem selP_yes {L : List Pt} {w : List Bool} {j : Nat} (h : j < L.length) (h2 : j < w.length) (h3 : w[j] = true) : selP L w (j + 1) = selP L w j ++ [L[j]] := by
 rw [selP, List.getElem?_eq_getElem h, List.getElem?_eq_getElem h2, h3]
theorem selP_no {L : List Pt} {w : List Bool} {j : Nat} (h : j < L.length) (h2 : j < w.length) (h3 : w[j] = false) : selP L w (j + 1) = selP L w j := by
 rw [selP, List.getElem?_eq_getElem h, List.getElem?_eq_getElem h2, h3]
theorem selJ_yes {w : List Bool} {j : Nat} (h2 : j < w.length) (h3 : w[j] = true) : selJ w (j + 1) = selJ w j ++ [((j : Nat) : Int)] := by
 rw [selJ, List.getElem?_eq_getElem h2, h3]
theorem selJ_no {w : List Bool} {j : Nat} (h2 : j < w.length) (h3 : w[j] = false) : selJ w (j + 1) = selJ w j := by
 rw [selJ, List.getElem?_eq_getElem h2, h3]
theorem sel_len {L : List Pt} {w : List Bool} (hl : w.length = L.length) : ∀ j, j ≤ L.length → (selP L w j).length ≤ j ∧ (selJ w j).length = (selP L w j).length
 | 0, _ => by simp [selP, selJ]
 | j + 1, h => by
  obtain ⟨h1, h2⟩ := sel_len hl j (by omega)
  cases h3 : w[j]'(by omega) with
  | true =>
   rw [selP_yes (by omega) (by omega) h3, selJ_yes (by omega) h3]
   simp
   omega
  | false =>
   rw [selP_no (by omega) (by omega) h3, selJ_no (by omega) h3]
   omega
theorem selP_mem {L : List Pt} {w : List Bool} {x : Pt} : ∀ {j}, x ∈ selP L w j → x ∈ L
 | 0, h => by simp [selP] at h
 | j + 1, h => by
  rw [selP] at h
  split at h
  ·rename_i y h1 h2
   rcases List.mem_append.1 h with h | h
   ·exact selP_mem h
   ·simp at h
    rw [h]
    exact List.mem_of_getElem? h1
  ·exact selP_mem h

def whoAt (w : List Bool) (n i : Nat) : Int := (selJ w n).getD i 0
def gateS (L : List Pt) (w : List Bool) : Int × Int × Int :=
 if askedS L w ≠ 0 then (0, 0, askedS L w)
 else if shareT (selP L w L.length) ≠ 0 then (-1, 0, shareT (selP L w L.length))
 else match firstBad (fun i => !((testS (selP L w L.length) ((i : Nat) : Int)).2 == 0)) 0 (selP L w L.length).length with
  | none => (-1, 0, 0)
  | some i => (whoAt w L.length i, (testS (selP L w L.length) ((i : Nat) : Int)).1, (testS (selP L w L.length) ((i : Nat) : Int)).2)

def RP (n m : Nat) : List AV := (zerosN [.int .i64 0, .int .i64 0, .nils] n).drop (m * 3)
def RI (n m : Nat) : List AV := (zerosN [.int .i64 0] n).drop (m * 1)
theorem zeros_len (z : List AV) : ∀ n, (zerosN z n).length = n * z.length
 | 0 => by simp [zerosN]
 | n + 1 => by rw [zerosN, List.length_append, zeros_len z n, Nat.succ_mul]; omega
theorem zeros_cl {z : List AV} (h : clL z = true) : ∀ n, clL (zerosN z n) = true
 | 0 => rfl
 | n + 1 => clL_app h (zeros_cl h n)
theorem cl_drop {l : List AV} (h : clL l = true) (j : Nat) : clL (l.drop j) = true := by
 induction l generalizing j with
 | nil => simp [clL]
 | cons x l ih =>
  cases j with
  | zero => exact h
  | succ j =>
   simp only [clL, Bool.and_eq_true] at h
   exact ih h.2 j
theorem RP_len (n m : Nat) : (RP n m).length = (n - m) * 3 := by rw [RP, List.length_drop, zeros_len, Nat.sub_mul]; rfl
theorem RI_len (n m : Nat) : (RI n m).length = (n - m) * 1 := by rw [RI, List.length_drop, zeros_len, Nat.sub_mul]; rfl
theorem RP_drop (n m : Nat) : (RP n m).drop 3 = RP n (m + 1) := by rw [RP, RP, List.drop_drop, Nat.succ_mul]
theorem RI_drop (n m : Nat) : (RI n m).drop 1 = RI n (m + 1) := by rw [RI, RI, List.drop_drop, Nat.succ_mul]
theorem RP_cl (n m : Nat) : clL (RP n m) = true := cl_drop (zeros_cl (by rfl) n) _
theorem RI_cl (n m : Nat) : clL (RI n m) = true := cl_drop (zeros_cl (by rfl) n) _
def gP (n : Nat) (S : List Pt) : List AV := flatCells (pts S) ++ RP n S.length
def gI (n : Nat) (I : List Int) : List AV := flatCells (ints I) ++ RI n I.length
theorem gP_cl (n : Nat) (S : List Pt) : clL (gP n S) = true := clL_app (flat_cl (cl_pts S)) (RP_cl _ _)
theorem gI_cl (n : Nat) (I : List Int) : clL (gI n I) = true := clL_app (flat_cl (cl_ints I)) (RI_cl _ _)
def gateH (n : Nat) (S : List Pt) (I : List Int) : Heap := H3 (some (.cells (gP n S) true 0)) (some (.cells (gI n I) true 0)) none
theorem mk_room {zs : List AV} {sz bytes n : Nat} (hn : n ≤ 4) (hb : bytes ≤ 1048576) : aI (.mkslice zs sz bytes) [.int .i64 0, .int .i64 (n : Nat)] = some (.cells (zerosN zs n) true 0, fun b => .sl b 0 0 n false) := by
 have hm : bytes * n ≤ 1048576 * 4 := Nat.mul_le_mul hb hn
 have b2 : Nat.ble (bytes * n) 140737488355328 = true := Nat.ble_eq_true_of_le (by omega)
 have b3 : Nat.ble n 9223372036854775807 = true := Nat.ble_eq_true_of_le (by omega)
 have b1 : Nat.ble 0 n = true := Nat.ble_eq_true_of_le (by omega)
 show cond (Nat.ble 0 n && Nat.ble (bytes * n) 140737488355328 && Nat.ble n 9223372036854775807) (some (Blk.cells (zerosN zs n) true 0, fun b => AV.sl b 0 0 n false)) none = _
 rw [b1, b2, b3]
 rfl

def selE (k kw n : Nat) (L : List Pt) (w : List Bool) (j : Nat) : List (Nat × AV) := [(1, .fz kw (bls w)), (8, .sl 0 0 (selP L w j).length n false), (9, .sl 1 0 (selJ w j).length n false), (30, .fz k (pts L)), (31, .int .i64 (L.length : Nat)), (32, .int .i64 ((j : Nat) : Int))]
theorem ren_sel {k kw n j : Nat} {L : List Pt} {w : List Bool} {S : List Pt} {I : List Int} {e1 : Env} {h1 : Heap} (e1' : Tr.get e1 1 = some (.fz kw (bls w))) (e8 : Tr.get e1 8 = some (.sl 0 0 S.length n false)) (e9 : Tr.get e1 9 = some (.sl 1 0 I.length n false))
  (e30 : Tr.get e1 30 = some (.fz k (pts L))) (e31 : Tr.get e1 31 = some (.int .i64 (L.length : Nat))) (e32 : Tr.get e1 32 = some (.int .i64 ((j : Nat) : Int))) (hS : selP L w j = S) (hI : selJ w j = I) (g0 : h1.get 0 = some (.cells (gP n S) true 0)) (g1 : h1.get 1 = some (.cells (gI n I) true 0)) :
  GC 0 id e1 h1 (ek 6 (selE k kw n L w j)) (gateH n (selP L w j) (selJ w j)) := by
 subst hS hI
 exact gc3 id ⟨⟨_, e1', .cl (by simp [AV.cl, cl_bls])⟩, ⟨_, e8, .sl (by omega)⟩, ⟨_, e9, .sl (by omega)⟩, ⟨_, e30, .cl (by simp [AV.cl, cl_pts])⟩, ⟨_, e31, .cl rfl⟩, ⟨_, e32, .cl rfl⟩, trivial⟩ (one_blk ⟨_, g0, renB_cl rfl (gP_cl _ _)⟩) (one_blk ⟨_, g1, renB_cl rfl (gI_cl _ _)⟩) no_blk (by decide) (by decide) (by decide) (by intro b hb; omega) (by omega)

def tstE (m n j : Nat) : List (Nat × AV) := [(8, .sl 0 0 m n false), (55, .sl 1 0 m n false), (56, .int .i64 (m : Nat)), (57, .int .i64 ((j : Nat) : Int))]
theorem ren_tst {n j m : Nat} {S : List Pt} {I : List Int} {e1 : Env} {h1 : Heap} (e8 : Tr.get e1 8 = some (.sl 0 0 m n false)) (e55 : Tr.get e1 55 = some (.sl 1 0 m n false)) (e56 : Tr.get e1 56 = some (.int .i64 (m : Nat))) (e57 : Tr.get e1 57 = some (.int .i64 ((j : Nat) : Int)))
  (g0 : h1.get 0 = some (.cells (gP n S) true 0)) (g1 : h1.get 1 = some (.cells (gI n I) true 0)) : GC 0 id e1 h1 (ek 6 (tstE m n j)) (gateH n S I) :=
 gc3 id ⟨⟨_, e8, .sl (by omega)⟩, ⟨_, e55, .sl (by omega)⟩, ⟨_, e56, .cl rfl⟩, ⟨_, e57, .cl rfl⟩, trivial⟩ (one_blk ⟨_, g0, renB_cl rfl (gP_cl _ _)⟩) (one_blk ⟨_, g1, renB_cl rfl (gI_cl _ _)⟩) no_blk (by decide) (by decide) (by decide) (by intro b hb; omega) (by omega)

theorem confC_len {L : List Pt} (h : confC L = true) : 1 ≤ L.length ∧ L.length ≤ 4 := by
 simp only [confC, Bool.and_eq_true, decide_eq_true_eq] at h
 omega

theorem gateTest_c (k kw : Nat) (L : List Pt) (w : List Bool) (hs : Small L) : PC fs ms f_gate_Test [cfg k L, .fz kw (bls w)] (tripI (gateS L w)) := by
 refine pc_of (by simp [clL, cl_cfg, AV.cl, cl_bls]) rfl ?_
 refine vd_begin (af := C_gate_Test) rfl (Nat.le_of_ble_eq_true rfl) ?_
 generalize hQ : (fun (v : AV) (_ : Heap) => v = tripI (gateS L w)) = Q
 conv => whnf
 refine vc_seq false ?_
 conv => whnf
 refine vc_frz [0] (i := 2) (v' := .fp [.fz k (pts L), .nils] 0) rfl (.ptr' (by simp) rfl (.clean (by simp [cfg, AV.cells, clL, AV.cl, cl_pts]))) ?_
 refine vc_to0 5 [(1, .fz kw (bls w)), (2, .fp [.fz k (pts L), .nils] 0)] ?_ ?_
 ·exact ⟨⟨_, rfl, .cl (by simp [AV.cl, cl_bls])⟩, ⟨_, rfl, .cl (by simp [AV.cl, clL, cl_pts])⟩, trivial⟩
 have hask := asked_c k kw L w hs
 have hG : gateS L w = if askedS L w ≠ 0 then (0, 0, askedS L w)
  else if shareT (selP L w L.length) ≠ 0 then (-1, 0, shareT (selP L w L.length))
  else match firstBad (fun i => !((testS (selP L w L.length) ((i : Nat) : Int)).2 == 0)) 0 (selP L w L.length).length with
   | none => (-1, 0, 0)
   | some i => (whoAt w L.length i, (testS (selP L w L.length) ((i : Nat) : Int)).1, (testS (selP L w L.length) ((i : Nat) : Int)).2) := rfl
 refine vpC_sound (z := false) ?_
 conv => whnf
 refine vd_pure hask ?_
 conv => whnf
 by_cases h0 : askedS L w = 0
 case neg =>
  refine brt (by simpa using h0) (fun hc => ?_)
  (try rw [hc])
  conv => whnf
  subst hQ
  rw [hG, if_pos h0]
  rfl
 refine brf (by simpa using h0) (fun hc => ?_)
 (try rw [hc])
 conv => whnf
 rw [if_neg (by omega)] at hG
 have hcl : confC L = true ∧ w.length = L.length := by
  unfold askedS at h0
  split at h0
  ·rename_i h1
   split at h0
   ·rename_i h2; exact ⟨h1, h2⟩
   ·omega
  ·omega
 obtain ⟨hconf, hwl⟩ := hcl
 have hlen := confC_len hconf
 rw [len_bls, hwl]
 refine ⟨_, _, mk_room (by omega) (by omega), ?_⟩
 conv => whnf
 rw [len_bls, hwl]
 refine ⟨_, _, mk_room (by omega) (by omega), ?_⟩
 conv => whnf
 refine vc_gc (ren_sel (k := k) (kw := kw) (n := L.length) (L := L) (w := w) (j := 0) (S := []) (I := []) rfl rfl rfl rfl ((show _ = some (AV.int .i64 ((pts L).length : Nat)) from rfl).trans (by rw [len_pts])) rfl rfl rfl rfl rfl) ?_
 refine for_rowL 0 6 L.length (fun _ => True) (selE k kw L.length L w) (fun j => gateH L.length (selP L w j) (selJ w j)) (fun j hj _ => ?_) (fun _ => ?_) trivial
 ·have hjw : j < w.length := by omega
  have hsl := sel_len hwl j (by omega)
  have hyes := selP_yes hj hjw
  have hno := selP_no hj hjw
  have hyj := selJ_yes hjw
  have hnj := selJ_no hjw
  have hix := idx_pt (k := k) hj
  have hib := idx_bl (k := kw) hjw
  have hE : selE k kw L.length L w j = [(1, .fz kw (bls w)), (8, .sl 0 0 (selP L w j).length L.length false), (9, .sl 1 0 (selJ w j).length L.length false), (30, .fz k (pts L)), (31, .int .i64 (L.length : Nat)), (32, .int .i64 ((j : Nat) : Int))] := rfl
  rw [hE]
  generalize selP L w j = S at *
  generalize selJ w j = I at *
  generalize L[j] = x at *
  generalize w[j] = b at *
  have hgp : gP L.length S = flatCells (pts S) ++ RP L.length S.length := rfl
  have hgi : gI L.length I = flatCells (ints I) ++ RI L.length I.length := rfl
  have hgp' : gP L.length (S ++ [x]) = flatCells (pts S ++ [pt x]) ++ (RP L.length S.length).drop 3 := by
   rw [RP_drop, gP, List.length_append]
   simp [pts]
  have hgi' : gI L.length (I ++ [((j : Nat) : Int)]) = flatCells (ints I ++ [.int .i64 ((j : Nat) : Int)]) ++ (RI L.length I.length).drop 1 := by
   rw [RI_drop, gI, List.length_append]
   simp [ints]
  generalize hn : L.length = n at *
  show vpC fs ms 0 false false _ _ ⟨3, .node (.node .nil (some (.cells (gI n I) true 0)) .nil) (some (.cells (gP n S) true 0)) (.node .nil none .nil)⟩ _
  conv => whnf
  refine brt (by simp; omega) (fun hc => ?_)
  (try rw [hc])
  conv => whnf
  refine ⟨_, hix, ?_⟩
  conv => whnf
  refine ⟨_, hib, ?_⟩
  conv => whnf
  cases b with
  | false =>
   conv => whnf
   exact ⟨trivial, id, ren_sel rfl rfl rfl rfl (by rw [hn]; rfl) (inc_slot (by omega)) (hno rfl) (hnj rfl) rfl rfl⟩
  | true =>
   conv => whnf
   refine ⟨_, _, app_in (l := pts S) (rest := RP n S.length) (y := pt x) rfl hgp (size_pts S) (len_pts S).symm (by omega) (RP_len _ _) rfl rfl rfl, ?_⟩
   conv => whnf
   refine ⟨_, _, app_in (l := ints I) (rest := RI n I.length) (y := .int .i64 ((j : Nat) : Int)) rfl hgi (size_ints I) (len_ints I).symm (by omega) (RI_len _ _) rfl rfl rfl, ?_⟩
   conv => whnf
   rw [← hgp', ← hgi']
   refine ⟨trivial, id, ren_sel rfl ?_ ?_ rfl (by rw [hn]; rfl) (inc_slot (by omega)) (hyes rfl) (hyj rfl) rfl rfl⟩
   ·rw [List.length_append]; rfl
   ·rw [List.length_append]; rfl
 have hsl := sel_len hwl L.length (Nat.le_refl _)
 have hmem : ∀ x, x ∈ selP L w L.length → x ∈ L := fun x hx => selP_mem hx
 have hwho : ∀ i, whoAt w L.length i = (selJ w L.length).getD i 0 := fun i => rfl
 rw [show selE k kw L.length L w L.length = [(1, .fz kw (bls w)), (8, .sl 0 0 (selP L w L.length).length L.length false), (9, .sl 1 0 (selJ w L.length).length L.length false), (30, .fz k (pts L)), (31, .int .i64 (L.length : Nat)), (32, .int .i64 ((L.length : Nat) : Int))] from rfl]
 generalize selP L w L.length = S at *
 generalize selJ w L.length = I at *
 have hsS : Small S := ⟨by have := hs.1; omega, fun x hx => hs.2 x (hmem x hx)⟩
 have hst := shareTest_c 0 S hsS
 have hlt := fun a => ltest_c 0 S a hsS
 rw [hsl.2]
 generalize L.length = n at *
 obtain ⟨m, hm⟩ : ∃ m, S.length = m := ⟨_, rfl⟩
 rw [hm] at hG hsl ⊢
 have hgp : gP n S = flatCells (pts S) ++ RP n S.length := rfl
 have hgi : gI n I = flatCells (ints I) ++ RI n I.length := rfl
 have hfz : ∀ h : Heap, h.get 0 = some (.cells (gP n S) true 0) → Frz (fun _ => True) h (.sl 0 0 m n false) (.fz 0 (pts S)) := fun h hh => frz_pre (s := 3) trivial hh hgp (size_pts _) (by rw [len_pts, hm]) (by omega) (cl_pts _)
 have hid : ∀ i, i < m → (gI n I)[i]? = some (.int .i64 (whoAt w n i)) := by
  intro i hi
  rw [hgi, hwho, flat_ints, List.getElem?_append_left (by rw [len_ints]; omega), ints, List.getElem?_map, List.getElem?_eq_getElem (by omega), List.getD_eq_getElem?_getD, List.getElem?_eq_getElem (by omega)]
  rfl
 refine vc_loop (z := false) ?_
 show vpC fs ms 0 false false _ _ ⟨3, .node (.node .nil (some (.cells (gI n I) true 0)) .nil) (some (.cells (gP n S) true 0)) (.node .nil none .nil)⟩ _
 conv => whnf
 refine brf (by simp) (fun hc => ?_)
 (try rw [hc])
 conv => whnf
 refine vd_view hst rfl (.cons (hfz _ rfl) .nil) ?_
 conv => whnf
 by_cases hsh : shareT S = 0
 case neg =>
  refine brt (by simpa using hsh) (fun hc => ?_)
  (try rw [hc])
  conv => whnf
  subst hQ
  rw [hG, if_pos hsh]
  rfl
 refine brf (by simpa using hsh) (fun hc => ?_)
 (try rw [hc])
 conv => whnf
 rw [if_neg (by omega)] at hG
 refine vc_gc (ren_tst (m := m) (n := n) (j := 0) (S := S) (I := I) rfl rfl rfl rfl rfl rfl) ?_
 have hbody : ∀ (K : AX → Env → Heap → Prop) j, j < m → ((testS S ((j : Nat) : Int)).2 = 0 → ∀ e1 h1, GC 0 id e1 h1 (ek 6 (tstE m n (j + 1))) (gateH n S I) → K .normal e1 h1) → ((testS S ((j : Nat) : Int)).2 ≠ 0 → ∀ e1 h1, resAllV e1 h1 C_gate_Test.results = some [.int .i64 (whoAt w n j), .int .i64 (testS S ((j : Nat) : Int)).1, .int .i64 (testS S ((j : Nat) : Int)).2] → K .ret e1 h1) →
   vpC fs ms 0 false false L_gate_Test_1 (ek 6 (tstE m n j)) (gateH n S I) K := by
  intro K j hj k1 k2
  have ht := hlt ((j : Nat) : Int)
  have hi := hid j hj
  generalize testS S ((j : Nat) : Int) = T at *
  obtain ⟨T1, T2⟩ := T
  show vpC fs ms 0 false false _ (ek 6 [(8, .sl 0 0 m n false), (55, .sl 1 0 m n false), (56, .int .i64 (m : Nat)), (57, .int .i64 ((j : Nat) : Int))]) ⟨3, .node (.node .nil (some (.cells (gI n I) true 0)) .nil) (some (.cells (gP n S) true 0)) (.node .nil none .nil)⟩ _
  conv => whnf
  refine brt (by simp; omega) (fun hc => ?_)
  (try rw [hc])
  conv => whnf
  refine ⟨_, idx_sl (by omega), ?_⟩
  conv => whnf
  refine op_some (ld1 rfl hi) ?_
  conv => whnf
  refine vd_view (v := .tup [.int .i64 T1, .int .i64 T2]) ht rfl (.cons (hfz _ rfl) (.cons (.clean rfl) .nil)) ?_
  conv => whnf
  by_cases h2 : T2 = 0
  ·refine brf (by simpa using h2) (fun hc => ?_)
   (try rw [hc])
   conv => whnf
   exact k1 h2 _ _ (ren_tst rfl rfl rfl (inc_slot (by omega)) rfl rfl)
  ·refine brt (by simpa using h2) (fun hc => ?_)
   (try rw [hc])
   conv => whnf
   exact k2 h2 _ _ rfl
 cases hfb : firstBad (fun i => !((testS S ((i : Nat) : Int)).2 == 0)) 0 m with
 | none =>
  rw [hfb] at hG
  have hno : ∀ j, j < m → (testS S ((j : Nat) : Int)).2 = 0 := fun j hj => by have := firstBad_none hfb j hj; rw [Nat.zero_add] at this; simpa using this
  refine for_rowL 0 6 m (fun _ => True) (tstE m n) (fun _ => gateH n S I) (fun j hj _ => hbody _ j hj (fun _ e1 h1 hg => ⟨trivial, id, hg⟩) (fun he => absurd (hno j hj) he)) (fun _ => ?_) trivial
  refine vc_loop (z := false) ?_
  show vpC fs ms 0 false false _ (ek 6 [(8, .sl 0 0 m n false), (55, .sl 1 0 m n false), (56, .int .i64 (m : Nat)), (57, .int .i64 ((m : Nat) : Int))]) ⟨3, .node (.node .nil (some (.cells (gI n I) true 0)) .nil) (some (.cells (gP n S) true 0)) (.node .nil none .nil)⟩ _
  conv => whnf
  refine brf (by simp) (fun hc => ?_)
  (try rw [hc])
  conv => whnf
  subst hQ
  rw [hG]
  rfl
 | some u =>
  rw [hfb] at hG
  obtain ⟨u1, u2, u3, u4⟩ := firstBad_some hfb
  have hok : ∀ j, j < u → (testS S ((j : Nat) : Int)).2 = 0 := fun j hj => by simpa using u4 j (by omega) hj
  have hbad : (testS S ((u : Nat) : Int)).2 ≠ 0 := by simpa using u3
  refine for_rowL 0 6 u (fun _ => True) (tstE m n) (fun _ => gateH n S I) (fun j hj _ => hbody _ j (by omega) (fun _ e1 h1 hg => ⟨trivial, id, hg⟩) (fun he => absurd (hok j hj) he)) (fun _ => ?_) trivial
  refine vc_loop (z := false) (hbody _ u (by omega) (fun he => absurd he hbad) (fun _ e1 h1 hr => ?_))
  show endV C_gate_Test.results Q .ret e1 h1
  subst hQ
  simp only [endV, hr]
  rw [hG]
  rfl
end Ir
end Go.Proofs.Ytlndlbngfgaoeaa
set_option maxRecDepth 100000
set_option linter.unusedSimpArgs false
set_option linter.unusedVariables false
namespace Go.Proofs.Ytlndlbngfgaoeaa
open Go Ads
namespace Ir

def joinS (L : List Pt) (w : List Bool) (i : Nat) : Int := if askedS L w ≠ 0 then askedS L w else (gateS L (w.set i true)).2.2

theorem flat_bls : ∀ l : List Bool, flatCells (bls l) = bls l
 | [] => rfl
 | x :: l => by
  show AV.bool x :: flatCells (bls l) = _
  rw [flat_bls l]
  rfl
theorem flatL_bls : ∀ l : List Bool, flatL (bls l) = true
 | [] => rfl
 | x :: l => by
  show cond (AV.bool x).flat (flatL (bls l)) false = true
  exact flatL_bls l

theorem gateJoin_c (k kw : Nat) (L : List Pt) (w : List Bool) (i : Nat) (hs : Small L) (hi : i < w.length) : PC fs ms f_gate_Join [cfg k L, .fz kw (bls w), .int .i64 (i : Nat)] (.int .i64 (joinS L w i)) := by
 refine pc_of (by simp [clL, cl_cfg, AV.cl, cl_bls]) rfl ?_
 refine vd_begin (af := C_gate_Join) rfl (Nat.le_of_ble_eq_true rfl) ?_
 generalize hQ : (fun (v : AV) (_ : Heap) => v = .int .i64 (joinS L w i)) = Q
 conv => whnf
 refine vc_seq false ?_
 conv => whnf
 refine vc_frz [0] (i := 3) (v' := .fp [.fz k (pts L), .nils] 0) rfl (.ptr' (by simp) rfl (.clean (by simp [cfg, AV.cells, clL, AV.cl, cl_pts]))) ?_
 refine vc_to0 5 [(1, .fz kw (bls w)), (2, .int .i64 (i : Nat)), (3, .fp [.fz k (pts L), .nils] 0)] ?_ ?_
 ·exact ⟨⟨_, rfl, .cl (by simp [AV.cl, cl_bls])⟩, ⟨_, rfl, .cl rfl⟩, ⟨_, rfl, .cl (by simp [AV.cl, clL, cl_pts])⟩, trivial⟩
 have hask := asked_c k kw L w hs
 have hJ : joinS L w i = if askedS L w ≠ 0 then askedS L w else (gateS L (w.set i true)).2.2 := rfl
 refine vpC_sound (z := false) ?_
 conv => whnf
 refine vd_pure hask ?_
 conv => whnf
 by_cases h0 : askedS L w = 0
 case neg =>
  refine brt (by simpa using h0) (fun hc => ?_)
  (try rw [hc])
  conv => whnf
  subst hQ
  rw [hJ, if_pos h0]
 refine brf (by simpa using h0) (fun hc => ?_)
 (try rw [hc])
 conv => whnf
 rw [if_neg (by omega)] at hJ
 have hcl : confC L = true ∧ w.length = L.length := by
  unfold askedS at h0
  split at h0
  ·rename_i h1
   split at h0
   ·rename_i h2; exact ⟨h1, h2⟩
   ·omega
  ·omega
 obtain ⟨hconf, hwl⟩ := hcl
 have hlen := confC_len hconf
 refine brf (by rw [len_bls]; simp; omega) (fun hc => ?_)
 (try rw [hc])
 conv => whnf
 refine ⟨_, rfl, ?_⟩
 conv => whnf
 have hg := gateTest_c k 0 L (w.set i true) hs
 generalize gateS L (w.set i true) = g at *
 obtain ⟨ga, gb, gc⟩ := g
 obtain ⟨n, hn⟩ : ∃ n, w.length = n := ⟨_, rfl⟩
 obtain ⟨R, hR⟩ : ∃ R : List AV, R = List.drop n [.bool false, .bool false, .bool false, .bool false] := ⟨_, rfl⟩
 have hRl : R.length = 4 - n := by rw [hR]; simp
 refine ⟨.int .i64 (n : Nat), ⟨1, .node .nil (some (.cells (bls w ++ R) true 0)) .nil⟩, ?_, ?_⟩
 ·have h1 : srcV 1 ⟨1, .node .nil (some (.cells [.bool false, .bool false, .bool false, .bool false] true 0)) .nil⟩ (.fz kw (bls w)) = some (n, bls w) := by
   simp only [srcV, size_bls, cond_true, len_bls, flat_bls, hn]
  have h2 : Heap.storeN ⟨1, .node .nil (some (.cells [.bool false, .bool false, .bool false, .bool false] true 0)) .nil⟩ 0 0 ((bls w).take (min n 4 * 1)) = some ⟨1, .node .nil (some (.cells (bls w ++ R) true 0)) .nil⟩ := by
   have hm : (bls w).take (min n 4 * 1) = bls w := by rw [List.take_of_length_le (by rw [len_bls]; omega)]
   have hb : Nat.ble (0 + (bls w).length) [AV.bool false, .bool false, .bool false, .bool false].length = true := Nat.ble_eq_true_of_le (by rw [len_bls]; simp; omega)
   have hsp : Heap.splice [AV.bool false, .bool false, .bool false, .bool false] 0 (bls w) = bls w ++ R := by
    rw [splice_zero _ _ (by rw [len_bls]; simp; omega), hR, len_bls, hn]
   rw [hm]
   show cond (Nat.ble (0 + (bls w).length) [AV.bool false, .bool false, .bool false, .bool false].length && flatL (bls w)) (some (Heap.set ⟨1, .node .nil (some (.cells [.bool false, .bool false, .bool false, .bool false] true 0)) .nil⟩ 0 (.cells (Heap.splice [AV.bool false, .bool false, .bool false, .bool false] 0 (bls w)) true 0))) none = _
   rw [hb, flatL_bls, hsp]
   rfl
  show (match srcV 1 _ (.fz kw (bls w)) with | none => none | some (n, new) => _) = _
  rw [h1]
  show (Heap.storeN _ 0 0 ((bls w).take (min n 4 * 1))).map _ = _
  rw [h2]
  show some (AV.int .i64 (min ((n : Nat) : Int) ((4 : Nat) : Int)), _) = _
  rw [show min ((n : Nat) : Int) ((4 : Nat) : Int) = ((n : Nat) : Int) by omega]
 conv => whnf
 refine ⟨.ptr 0 i, ?_, ?_⟩
 ·have b1 : Nat.ble (i + 1) 4 = true := Nat.ble_eq_true_of_le (by omega)
  show cond (Nat.ble (i + 1) 4) (some (AV.ptr 0 (0 + i * 1))) none = _
  rw [b1, Nat.mul_one, Nat.zero_add]
  rfl
 conv => whnf
 have hsp : Heap.splice (bls w ++ R) i [.bool true] = flatCells (bls (w.set i true)) ++ R := by
  rw [splice_at _ _ _ (by rw [List.length_append, len_bls]; omega), List.set_append_left _ _ (by rw [len_bls]; omega), flat_bls, bls, bls, List.map_set]
 refine brT (by show (Nat.ble (i + 1) (bls w ++ R).length && true) = true; rw [Bool.and_true]; exact Nat.ble_eq_true_of_le (by rw [List.length_append, len_bls]; omega)) ?_
 conv => whnf
 refine ⟨.sl 0 0 n 4 false, ?_, ?_⟩
 ·have b1 : Nat.ble 0 n = true := Nat.ble_eq_true_of_le (by omega)
  have b2 : Nat.ble n 4 = true := Nat.ble_eq_true_of_le (by omega)
  have b3 : bounds 4 4 false true false [.int .i64 (n : Nat)] = some (0, n, 4) := by
   show cond (Nat.ble 0 n && Nat.ble n 4 && Nat.ble 4 4) _ _ = _
   rw [b1, b2]
   rfl
  rw [len_bls, hn]
  show (match bounds 4 4 false true false [.int .i64 (n : Nat)] with | some (l, h, mm) => some (AV.sl 0 (0 + cond (Nat.beq mm l) 0 (l * 1)) (h - l) (mm - l) false) | none => none) = _
  rw [b3]
  rfl
 conv => whnf
 refine vd_view (v := .tup [.int .i64 ga, .int .i64 gb, .int .i64 gc]) hg rfl (.cons (.clean (cl_cfg k L)) (.cons (frz_pre (s := 1) trivial rfl hsp (size_bls _) (by rw [len_bls, List.length_set, hn]) (by omega) (cl_bls _)) .nil)) ?_
 conv => whnf
 refine ⟨_, rfl, ?_⟩
 conv => whnf
 have hYl : (Heap.splice (bls w ++ R) i [.bool true]).length = 4 := by
  rw [hsp, List.length_append, flat_bls, len_bls, List.length_set]
  omega
 refine ⟨.undef, ⟨1, .node .nil (some (.cells (Heap.splice (Heap.splice (bls w ++ R) i [.bool true]) 0 [.bool false, .bool false, .bool false, .bool false]) true 0)) .nil⟩, ?_, ?_⟩
 ·show (Heap.storeN ⟨1, .node .nil (some (.cells (Heap.splice (bls w ++ R) i [.bool true]) true 0)) .nil⟩ 0 0 [.bool false, .bool false, .bool false, .bool false]).map (fun h => (AV.undef, h)) = _
  generalize Heap.splice (bls w ++ R) i [.bool true] = Y at *
  have hb : Nat.ble 4 Y.length = true := Nat.ble_eq_true_of_le (by omega)
  show (cond (Nat.ble 4 Y.length && true) (some _) none : Option Heap).map _ = _
  rw [hb]
  rfl
 conv => whnf
 subst hQ
 rw [hJ]
end Ir
end Go.Proofs.Ytlndlbngfgaoeaa
