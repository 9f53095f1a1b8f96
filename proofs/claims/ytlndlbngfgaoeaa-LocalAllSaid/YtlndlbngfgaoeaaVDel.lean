/-
  Delay: tasks of partitions. Delay: Check of both. Delay: the document's Check. Delay: how long a task waits, of both. Delay: the document's wait; of; Wait of both. Delay: More of both. Delay: Of of both. Delay: what holds of partitions that may be asked.
-/
import Derived.Test.YtlndlbngfgaoeaaVDem
import Derived.Test.YtlndlbngfgaoeaaVsRows
set_option maxRecDepth 100000
set_option linter.unusedSimpArgs false
set_option linter.unusedVariables false
namespace Go.Proofs.Ytlndlbngfgaoeaa
open Go Ads
namespace Ir

def mayD (t : Tk) (B : Int) : Bool := decide (0 ≤ t.b ∧ t.b ≤ t.w ∧ 0 ≤ t.c ∧ t.c ≤ 4 ∧ ((t.c = 0 ∧ t.e = 0 ∧ t.f = 0) ∨ (t.c ≠ 0 ∧ 1 ≤ t.e ∧ t.e ≤ B ∧ 1 ≤ t.f ∧ t.e * t.f ≤ t.w)))

theorem taskOk_in {t : Tk} (h : taskOk t = true) : 1 ≤ t.w ∧ t.w ≤ t.d ∧ t.d ≤ t.p ∧ t.p ≤ 64 := by simpa [taskOk] using h

theorem may9_c (t : Tk) (B : Int) (h : taskOk t = true) : PC fs ms f_delay_may [tk t, .int .i64 B] (.bool (mayD t B)) := by
 have hw := taskOk_in h
 have hdiv : 1 ≤ t.e → (t.f ≤ t.w / t.e ↔ t.e * t.f ≤ t.w) := fun he => by
  rw [Int.le_ediv_iff_mul_le (by omega), Int.mul_comm]
 have hq : 1 ≤ t.e → IntKind.i64.wrap (t.w.tdiv t.e) = t.w / t.e := fun he => IntWalk.i64_quo _ _ (by omega)
 refine pc_of rfl rfl ?_
 refine vd_start (af := C_delay_may) false rfl (Nat.le_of_ble_eq_true rfl) ?_
 generalize hQ : (fun (v : AV) (_ : Heap) => v = .bool (mayD t B)) = Q
 conv => whnf
 iterate 10 (all_goals (first | (refine br (fun hc => ?_) (fun hc => ?_) <;> (try rw [hc]) <;> (conv => whnf)) | skip))
 all_goals (try (refine ⟨_, quo_val _ _ (by simp at *; omega), ?_⟩; conv => whnf; rw [hq (by simp at *; omega)]))
 all_goals (subst hQ; refine congrArg AV.bool ?_; rw [Bool.eq_iff_iff]; simp [mayD] at *; generalize t.e * t.f = P at *; generalize t.w / t.e = D at *; omega)

end Ir
end Go.Proofs.Ytlndlbngfgaoeaa
set_option maxRecDepth 100000
set_option linter.unusedSimpArgs false
set_option linter.unusedVariables false
namespace Go.Proofs.Ytlndlbngfgaoeaa
open Go Ads
namespace Ir

structure Pt where
 per : Int
 bud : Int
 k : Nat
 ts : List Tk
def pt (x : Pt) : AV := .agg [.int .i64 x.per, .int .i64 x.bud, .fz x.k (tks x.ts)]
def pts (l : List Pt) : List AV := l.map pt
theorem cl_pt (x : Pt) : (pt x).cl = true := by simp [pt, AV.cl, clL, cl_tks]
theorem cl_pts (l : List Pt) : clL (pts l) = true := clL_map (enc := pt) cl_pt l
theorem len_pts (l : List Pt) : (pts l).length = l.length := List.length_map ..
theorem idx_pt {l : List Pt} {j k : Nat} (hj : j < l.length) : pV (.iaddrS 3) [.fz k (pts l), .int .i64 (j : Nat)] = some (.fp (pt l[j]).cells 0) := idx_map (enc := pt) hj rfl

def partIn (x : Pt) : Prop := 1 ≤ x.per ∧ x.per ≤ 64 ∧ 1 ≤ x.bud ∧ x.bud ≤ x.per
instance (x : Pt) : Decidable (partIn x) := by unfold partIn; infer_instance
def partOk (x : Pt) : Bool := decide (partIn x) && (tasksOk x.ts && x.ts.all fun t => mayD t x.bud)
def delCheck (l : List Pt) : Int := if l.length ≤ 4 ∧ l.all partOk = true then 0 else 2
theorem delCheck_bad {l : List Pt} {j : Nat} (hj : j < l.length) (h : partOk l[j] = false) : delCheck l = 2 := by
 rw [delCheck, if_neg]
 rintro ⟨_, x⟩
 rw [List.all_eq_true] at x
 rw [x _ (List.getElem_mem hj)] at h
 exact absurd h (by decide)
def Small (l : List Pt) : Prop := l.length ≤ 17592186044416 ∧ ∀ x, x ∈ l → x.ts.length ≤ 17592186044416

theorem demCheck_zero (l : List Tk) : demCheck l (List.replicate l.length 0) = if tasksOk l = true then 0 else 2 := by
 have : (List.replicate l.length (0 : Int)).any moreBad = false := by
  rw [List.any_eq_false]
  intro m hm
  rw [(List.mem_replicate.1 hm).2]
  decide
 unfold demCheck
 by_cases h : tasksOk l = true
 ·rw [if_pos ⟨this, h, by simp⟩, if_pos h]
 ·rw [if_neg (fun x => h x.2.1), if_neg h]

theorem check1_c (t : Tk) (x : Pt) (h : taskOk t = true) : PC fs ms f_delay_Check_1 [tk t, .fp (pt x).cells 0] (.bool (!mayD t x.bud)) := by
 refine pc_of (by simp [clL, AV.cl, tk, pt, AV.cells, cl_tks]) rfl ?_
 refine vd_start (af := C_delay_Check_1) false rfl (Nat.le_of_ble_eq_true rfl) ?_
 generalize hQ : (fun (v : AV) (_ : Heap) => v = .bool (!mayD t x.bud)) = Q
 conv => whnf
 refine vd_pure (may9_c t x.bud h) ?_
 conv => whnf
 subst hQ
 rfl

theorem dcheck9_c (k : Nat) (l : List Pt) (hs : Small l) : PC fs ms f_delay_Check [.fz k (pts l)] (.int .i64 (delCheck l)) := by
 refine pc_of (by simp [clL, AV.cl, cl_pts]) rfl ?_
 refine vd_start (af := C_delay_Check) false rfl (Nat.le_of_ble_eq_true rfl) ?_
 generalize hQ : (fun (v : AV) (_ : Heap) => v = .int .i64 (delCheck l)) = Q
 conv => whnf
 refine br (fun hc => ?_) (fun hc => ?_) <;> (try rw [hc]) <;> (conv => whnf)
 ·subst hQ
  have := of_decide_eq_true hc
  rw [len_pts] at this
  rw [delCheck, if_neg (by omega)]
 ·have hl4 : l.length ≤ 4 := by
   have := of_decide_eq_false hc
   rw [len_pts] at this
   omega
  refine vc_to0 5 [(9, .fz k (pts l)), (10, .int .i64 (pts l).length), (11, .int .i64 ((0 : Nat) : Int))] (by repeat' (first | exact trivial | refine renAt_sl rfl (by omega) ?_ | refine renAt_ptr rfl (by omega) ?_ | refine renAt_yield rfl (by omega) ?_ | refine renAt_cl rfl (by first | rfl | simp [clL, AV.cl, cl_ints, cl_pts]) ?_ | refine renAt_cl (inc_slot (by omega)) rfl ?_)) ?_
  refine for_row 5 l.length (fun j => (l.take j).all partOk = true) (fun j => [(9, .fz k (pts l)), (10, .int .i64 (pts l).length), (11, .int .i64 (j : Nat))]) ?_ ?_ rfl
  ·intro j hj hi
   have hts := hs.2 _ (List.getElem_mem hj)
   have hbad := fun h => delCheck_bad (l := l) hj h
   have hgood := fun h => all_next (p := partOk) hj hi h
   have hix := idx_pt (k := k) hj
   generalize l[j] = x at *
   conv => whnf
   refine br (fun hc => ?_) (fun hc => ?_) <;> (try rw [hc]) <;> (conv => whnf)
   ·refine ⟨_, hix, ?_⟩
    conv => whnf
    by_cases hx : partIn x
    ·have hx' := hx
     obtain ⟨x1, x2, x3, x4⟩ := hx'
     refine brf (by simp; omega) (fun hc => ?_)
     (try rw [hc])
     conv => whnf
     refine brf (by simp; omega) (fun hc => ?_)
     (try rw [hc])
     conv => whnf
     refine brf (by simp; omega) (fun hc => ?_)
     (try rw [hc])
     conv => whnf
     refine brf (by simp; omega) (fun hc => ?_)
     (try rw [hc])
     conv => whnf
     refine ⟨_, _, by rw [len_tks]; exact mk_ints (by omega), ?_⟩
     conv => whnf
     refine vd_view (check_c x.k 2 x.ts (List.replicate x.ts.length 0) (by omega) (by simp; omega)) rfl (.cons (.clean (by simp [AV.cl, cl_tks])) (.cons (.row (s := 1) trivial rfl (flat_ints _).symm (size_ints _) (by simp [ints]) (Nat.le_refl _) (by omega) (fun _ => rfl) (fun _ => rfl) (cl_ints _)) .nil)) ?_
     rw [demCheck_zero]
     by_cases ht : tasksOk x.ts = true
     ·rw [if_pos ht]
      conv => whnf
      have htk : ∀ t, t ∈ x.ts → taskOk t = true := by
       simp only [tasksOk, Bool.and_eq_true, List.all_eq_true] at ht
       exact ht.1
      refine vd_view (cfT_c (p := fun t => !mayD t x.bud) (capt := [.fp (pt x).cells 0]) x.k x.ts (by omega) (by simp [clL, AV.cl, pt, AV.cells, cl_tks]) (fun t ht => check1_c t x (htk t ht))) rfl
       (.cons (.clean (by simp [AV.cl, cl_tks])) (.cons (.func' .nil (.cons (.ptr' trivial rfl (.clean (l := (pt x).cells) (cells_cl (cl_pt x)))) .nil)) .nil)) ?_
      cases ha : x.ts.any (fun t => !mayD t x.bud) with
      | true =>
       conv => whnf
       subst hQ
       rw [hbad]
       rw [List.any_eq_true] at ha
       obtain ⟨t, h1, h2⟩ := ha
       rw [partOk, Bool.and_eq_false_iff, Bool.and_eq_false_iff]
       refine .inr (.inr ?_)
       rw [List.all_eq_false]
       exact ⟨t, h1, by simpa using h2⟩
      | false =>
       conv => whnf
       refine ⟨hgood ?_, (by repeat' (first | exact trivial | refine renAt_sl rfl (by omega) ?_ | refine renAt_ptr rfl (by omega) ?_ | refine renAt_yield rfl (by omega) ?_ | refine renAt_cl rfl (by first | rfl | simp [clL, AV.cl, cl_ints, cl_pts]) ?_ | refine renAt_cl (inc_slot (by omega)) rfl ?_))⟩
       rw [List.any_eq_false] at ha
       simp only [partOk, decide_eq_true hx, ht, Bool.true_and]
       rw [List.all_eq_true]
       intro t h1
       have := ha t h1
       simpa using this
     ·rw [if_neg ht]
      conv => whnf
      subst hQ
      rw [hbad (by simp [partOk, ht])]
    ·have hb : delCheck l = 2 := hbad (by simp [partOk, hx])
     unfold partIn at hx
     iterate 5 (all_goals (first | (refine br (fun hc => ?_) (fun hc => ?_) <;> (try rw [hc]) <;> (conv => whnf)) | skip))
     all_goals first
      | (subst hQ; rw [hb]; done)
      | (exfalso; simp at *; omega)
   ·exfalso
    have := of_decide_eq_false hc
    simp only [len_pts] at this
    omega
  ·intro hi
   rw [List.take_length] at hi
   conv => whnf
   refine br (fun hc => ?_) (fun hc => ?_) <;> (try rw [hc]) <;> (conv => whnf)
   ·exfalso
    have := of_decide_eq_true hc
    simp only [len_pts] at this
    omega
   ·subst hQ
    rw [delCheck, if_pos ⟨hl4, hi⟩]
end Ir
end Go.Proofs.Ytlndlbngfgaoeaa
set_option maxRecDepth 100000
set_option linter.unusedSimpArgs false
set_option linter.unusedVariables false
namespace Go.Proofs.Ytlndlbngfgaoeaa
open Go Ads
namespace Ir

end Ir
end Go.Proofs.Ytlndlbngfgaoeaa
set_option maxRecDepth 100000
set_option linter.unusedSimpArgs false
set_option linter.unusedVariables false
namespace Go.Proofs.Ytlndlbngfgaoeaa
open Go Ads
namespace Ir

def usesP (x : Pt) (g : Int) : Bool := x.ts.any fun t => t.c == g
def waitN (l : List Pt) (a g : Int) : Nat → Int
 | 0 => 0
 | j + 1 => match l[j]? with
  | some x => if (j : Int) ≠ a ∧ usesP x g = true then IntKind.i64.wrap (waitN l a g j + IntKind.i64.wrap (2 * x.per)) else waitN l a g j
  | none => waitN l a g j
theorem waitN_next {l : List Pt} {a g : Int} {j : Nat} (h : j < l.length) : waitN l a g (j + 1) = if (j : Int) ≠ a ∧ usesP l[j] g = true then IntKind.i64.wrap (waitN l a g j + IntKind.i64.wrap (2 * l[j].per)) else waitN l a g j := by
 rw [waitN, List.getElem?_eq_getElem h]
def waitS (l : List Pt) (a : Int) (t : Tk) : Int := if t.c = 0 then 0 else waitN l a t.c l.length
def sn (x : Pt) (k : Nat) (l : List Pt) (a : Int) : AV := .agg [.int .i64 x.per, .int .i64 x.bud, .fz x.k (tks x.ts), .fz k (pts l), .int .i64 a]
theorem cl_sn (x : Pt) (k : Nat) (l : List Pt) (a : Int) : (sn x k l a).cl = true := by simp [sn, AV.cl, clL, cl_tks, cl_pts]

theorem one_c (t : Tk) (g : Int) : PC fs ms f_delay_seen_sharers_1_1 [tk t, .fp [.int .i64 g] 0] (.bool (t.c == g)) := by
 refine pc_of rfl rfl ?_
 refine vd_start (af := C_delay_seen_sharers_1_1) false rfl (Nat.le_of_ble_eq_true rfl) ?_
 generalize hQ : (fun (v : AV) (_ : Heap) => v = .bool (t.c == g)) = Q
 conv => whnf
 subst hQ
 rfl

theorem sharers_c (x : Pt) (k : Nat) (l : List Pt) (a g : Int) : PC fs ms f_delay_seen_sharers [sn x k l a, .int .i64 g] (.func (.func f_delay_seen_sharers_1) [] [.fp (sn x k l a).cells 0, .fp [.int .i64 g] 0]) := by
 refine ⟨by simp [clL, AV.cl, cl_sn], by simp [clL, AV.cl, cells_cl (cl_sn x k l a)], ?_⟩
 refine vd_start (af := C_delay_seen_sharers) false rfl (Nat.le_of_ble_eq_true rfl) ?_
 generalize hQ : (fun (u : AV) (h : Heap) => Frz (fun _ => True) h u (.func (.func f_delay_seen_sharers_1) [] [.fp (sn x k l a).cells 0, .fp [.int .i64 g] 0])) = Q
 conv => whnf
 subst hQ
 exact .func' .nil (.cons (.ptr' trivial rfl (.clean (l := (sn x k l a).cells) (cells_cl (cl_sn x k l a)))) (.cons (.ptr' trivial rfl (.clean (l := [.int .i64 g]) rfl)) .nil))

def rangeA : AC → AC
 | .seq a b => match rangeA a with | .bad => rangeA b | x => x
 | .cond _ a b => match rangeA a with | .bad => rangeA b | x => x
 | .block _ c => rangeA c
 | .rangeFunc _ _ a _ => a
 | _ => .bad
def rangeB : AC → AC
 | .seq a b => match rangeB a with | .bad => rangeB b | x => x
 | .cond _ a b => match rangeB a with | .bad => rangeB b | x => x
 | .block _ c => rangeB c
 | .rangeFunc _ _ _ b => b
 | _ => .bad
def wA : AC := rangeA C_delay_seen_wait.body
def wB : AC := rangeB C_delay_seen_wait.body
def wE (F : AV) : Env := ek 4 [(4, .ptr 0 0), (12, F)]
def wH (F : AV) (n : Int) : Heap := ⟨2, .node (.node .nil (some (.loop 0 none (wE F) [13] wA wB)) .nil) (some (.cells [.int .i64 n] true 0)) .nil⟩

theorem wH_two (F : AV) (n : Int) : wH F n = hk 2 [(0, .cells [.int .i64 n] true 0), (1, .loop 0 none (wE F) [13] wA wB)] := hk_two _ _

theorem iter_d (x : Pt) (k : Nat) (l : List Pt) (a g : Int) {F : AV} (hF : F.cl = true) (hs : Small l) : VD fs ms f_delay_seen_sharers_1 [.yield 1, .fp (sn x k l a).cells 0, .fp [.int .i64 g] 0] (wH F 0) (fun _ h2 => h2 = wH F (waitN l a g l.length)) := by
 have hs1 := hs.1
 refine vd_start (af := C_delay_seen_sharers_1) false rfl (Nat.le_of_ble_eq_true rfl) ?_
 generalize hQ : (fun (v : AV) (h2 : Heap) => h2 = wH F (waitN l a g l.length)) = Q
 show startF _ _ fun e => vpC fs ms 2 false false _ e ⟨2, .node (.node .nil (some (.loop 0 none (wE F) [13] wA wB)) .nil) (some (.cells [.int .i64 0] true 0)) .nil⟩ _
 conv => whnf
 refine vc_lit (B := 2) (H := wH F (waitN l a g 0)) (d := 4) (l := [(0, .yield 1), (1, .fp (sn x k l a).cells 0), (2, .fp [.int .i64 g] 0), (8, .fz k (pts l)), (9, .int .i64 (pts l).length), (10, .int .i64 ((0 : Nat) : Int))]) (hk_two _ _) id (by repeat' (first | exact trivial | refine renAt_sl rfl (by omega) ?_ | refine renAt_ptr rfl (by omega) ?_ | refine renAt_yield rfl (by omega) ?_ | refine renAt_cl rfl (by first | rfl | simp [clL, AV.cl, cl_ints, cl_pts, cells_cl (cl_sn x k l a)]) ?_ | refine renAt_cl (inc_slot (by omega)) rfl ?_))
  ⟨by omega, ⟨_, rfl, renB_cl rfl rfl⟩, by omega, ⟨_, rfl, renB_loop (by simp; exact ⟨.ptr (by omega), .cl hF⟩)⟩, trivial⟩ (by intro b c hb hc h; exact h) (fun b hb => rfl) (Nat.le_refl _) ?_
 refine for_rowH 2 4 l.length (fun _ => True) (fun j => [(0, .yield 1), (1, .fp (sn x k l a).cells 0), (2, .fp [.int .i64 g] 0), (8, .fz k (pts l)), (9, .int .i64 (pts l).length), (10, .int .i64 (j : Nat))]) (fun j => wH F (waitN l a g j)) ?_ ?_ trivial
 ·intro j hj _
  have hts := hs.2 _ (List.getElem_mem hj)
  have hn := waitN_next (a := a) (g := g) hj
  have hix := idx_pt (k := k) hj
  generalize l[j] = y at *
  show vpC fs ms 2 false false _ (ek 4 _) ⟨2, .node (.node .nil (some (.loop 0 none (wE F) [13] wA wB)) .nil) (some (.cells [.int .i64 (waitN l a g j)] true 0)) .nil⟩ _
  generalize waitN l a g j = n at *
  conv => whnf
  refine br (fun hc => ?_) (fun hc => ?_) <;> (try rw [hc]) <;> (conv => whnf)
  ·refine ⟨_, hix, ?_⟩
   conv => whnf
   refine vd_view (cfT_c (p := fun t => t.c == g) (capt := [.fp [.int .i64 g] 0]) y.k y.ts (by omega) rfl (fun t _ => one_c t g)) rfl (.cons (.clean (by simp [AV.cl, cl_tks])) (.cons (.clean rfl) .nil)) ?_
   cases hu : (y.ts.any fun t => t.c == g) with
   | false =>
    conv => whnf
    rw [if_neg (by rintro ⟨_, z⟩; rw [usesP, hu] at z; exact absurd z (by decide))] at hn
    iterate 2 (all_goals (first | (refine br (fun hc => ?_) (fun hc => ?_) <;> (try rw [hc]) <;> (conv => whnf)) | skip))
    all_goals (refine ⟨trivial, id, gc_lit (H := wH F (waitN l a g (j + 1))) ((congrArg (wH F) hn).trans (wH_two _ _)) _ (by repeat' (first | exact trivial | refine renAt_sl rfl (by omega) ?_ | refine renAt_ptr rfl (by omega) ?_ | refine renAt_yield rfl (by omega) ?_ | refine renAt_cl rfl (by first | rfl | simp [clL, AV.cl, cl_ints, cl_pts, cells_cl (cl_sn x k l a)]) ?_ | refine renAt_cl (inc_slot (by omega)) rfl ?_)) ⟨by omega, ⟨_, rfl, renB_cl rfl rfl⟩, by omega, ⟨_, rfl, renB_loop (by simp; exact ⟨.ptr (by omega), .cl hF⟩)⟩, trivial⟩ (by intro b c hb hc h; exact h) (fun b hb => rfl) (Nat.le_refl _)⟩)
   | true =>
    conv => whnf
    by_cases hja : (j : Int) ≠ a
    ·rw [if_pos ⟨hja, hu⟩] at hn
     refine brt (by simpa using hja) (fun hc => ?_)
     (try rw [hc])
     conv => whnf
     refine vd_yield rfl rfl ?_
     refine vpC_sound (z := false) ?_
     conv => whnf
     refine ⟨rfl, none, rfl, ?_⟩
     refine vpC_sound (z := false) ?_
     conv => whnf
     refine ⟨by simp, ⟨1, none, rfl⟩, ?_⟩
     conv => whnf
     refine ⟨trivial, id, gc_lit (H := wH F (waitN l a g (j + 1))) ((congrArg (wH F) hn).trans (wH_two _ _)) _ (by repeat' (first | exact trivial | refine renAt_sl rfl (by omega) ?_ | refine renAt_ptr rfl (by omega) ?_ | refine renAt_yield rfl (by omega) ?_ | refine renAt_cl rfl (by first | rfl | simp [clL, AV.cl, cl_ints, cl_pts, cells_cl (cl_sn x k l a)]) ?_ | refine renAt_cl (inc_slot (by omega)) rfl ?_)) ⟨by omega, ⟨_, rfl, renB_cl rfl rfl⟩, by omega, ⟨_, rfl, renB_loop (by simp; exact ⟨.ptr (by omega), .cl hF⟩)⟩, trivial⟩ (by intro b c hb hc h; exact h) (fun b hb => rfl) (Nat.le_refl _)⟩
    ·rw [if_neg (fun z => hja z.1)] at hn
     refine brf (by simpa using hja) (fun hc => ?_)
     (try rw [hc])
     conv => whnf
     refine ⟨trivial, id, gc_lit (H := wH F (waitN l a g (j + 1))) ((congrArg (wH F) hn).trans (wH_two _ _)) _ (by repeat' (first | exact trivial | refine renAt_sl rfl (by omega) ?_ | refine renAt_ptr rfl (by omega) ?_ | refine renAt_yield rfl (by omega) ?_ | refine renAt_cl rfl (by first | rfl | simp [clL, AV.cl, cl_ints, cl_pts, cells_cl (cl_sn x k l a)]) ?_ | refine renAt_cl (inc_slot (by omega)) rfl ?_)) ⟨by omega, ⟨_, rfl, renB_cl rfl rfl⟩, by omega, ⟨_, rfl, renB_loop (by simp; exact ⟨.ptr (by omega), .cl hF⟩)⟩, trivial⟩ (by intro b c hb hc h; exact h) (fun b hb => rfl) (Nat.le_refl _)⟩
  ·exfalso
   have := of_decide_eq_false hc
   simp only [len_pts] at this
   omega
 ·intro _
  show vpC fs ms 2 false false _ (ek 4 _) ⟨2, .node (.node .nil (some (.loop 0 none (wE F) [13] wA wB)) .nil) (some (.cells [.int .i64 (waitN l a g l.length)] true 0)) .nil⟩ _
  generalize hn : waitN l a g l.length = n at *
  conv => whnf
  refine brf (by rw [len_pts]; simp) (fun hc => ?_)
  (try rw [hc])
  conv => whnf
  subst hQ
  rfl

theorem wait9_c (x : Pt) (k : Nat) (l : List Pt) (a : Int) (t : Tk) (hs : Small l) : PC fs ms f_delay_seen_wait [sn x k l a, tk t] (.int .i64 (waitS l a t)) := by
 refine pc_of (by simp [clL, cl_sn]; rfl) rfl ?_
 refine vd_start (af := C_delay_seen_wait) false rfl (Nat.le_of_ble_eq_true rfl) ?_
 generalize hQ : (fun (v : AV) (_ : Heap) => v = .int .i64 (waitS l a t)) = Q
 conv => whnf
 refine br (fun hc => ?_) (fun hc => ?_) <;> (try rw [hc]) <;> (conv => whnf)
 ·subst hQ
  simp at hc
  rw [waitS, if_pos hc]
 ·refine vd_pure (sharers_c x k l a t.c) ?_
  conv => whnf
  refine vc_lit (B := 0) (d := 4) (l := [(4, .ptr 0 0), (12, .func (.func f_delay_seen_sharers_1) [] [.fp (sn x k l a).cells 0, .fp [.int .i64 t.c] 0])]) (hk_one (.cells [.int .i64 0] true 0)) (fun b => 2) (by repeat' (first | exact trivial | refine renAt_sl rfl (by omega) ?_ | refine renAt_ptr rfl (by omega) ?_ | refine renAt_yield rfl (by omega) ?_ | refine renAt_cl rfl (by first | rfl | simp [clL, AV.cl, cl_ints, cells_cl (cl_sn x k l a)]) ?_ | refine renAt_cl (inc_slot (by omega)) rfl ?_)) ⟨by omega, ⟨_, rfl, renB_cl rfl rfl⟩, trivial⟩ (by intro b c hb hc _; simp at hb hc; omega) (by intro b hb; omega) (by omega) ?_
  show VC fs ms 0 false (.rangeFunc (.t 12) [13] wA wB) _ _ _
  refine vc_range rfl rfl ?_
  have hF : (AV.func (.func f_delay_seen_sharers_1) [] [.fp (sn x k l a).cells 0, .fp [.int .i64 t.c] 0]).cl = true := by simp [clL, AV.cl, cells_cl (cl_sn x k l a)]
  refine VD.mono (iter_d x k l a t.c hF hs) fun v h2 h => ?_
  subst h
  refine ⟨.normal, 0, rfl, by decide, by simp, ?_⟩
  conv => whnf
  subst hQ
  simp at hc
  rw [waitS, if_neg hc]
end Ir
end Go.Proofs.Ytlndlbngfgaoeaa
set_option maxRecDepth 100000
set_option linter.unusedSimpArgs false
set_option linter.unusedVariables false
namespace Go.Proofs.Ytlndlbngfgaoeaa
open Go Ads
namespace Ir

theorem any_yes {α : Type} {l : List α} {p : α → Bool} {j : Nat} (hj : j < l.length) (h : p l[j] = true) : l.any p = true := List.any_eq_true.2 ⟨l[j], List.getElem_mem hj, h⟩
theorem any_step {α : Type} {l : List α} {p : α → Bool} {j : Nat} (hj : j < l.length) (hi : (l.take j).any p = false) (h : p l[j] = false) : (l.take (j + 1)).any p = false := by
 rw [take_next hj, List.any_append, hi]; simp [h]

theorem delCheck_or (l : List Pt) : delCheck l = 0 ∨ delCheck l = 2 := by unfold delCheck; split <;> simp
def sn0 : AV := .agg [.int .i64 0, .int .i64 0, .nils, .nils, .int .i64 0]
def pr9 (p : Int × Int) : AV := .tup [.int .i64 p.1, .int .i64 p.2]

theorem of_bad (k : Nat) (l : List Pt) (a : Int) (hs : Small l) (h : delCheck l = 2) : PC fs ms f_delay_of [.fz k (pts l), .int .i64 a] (.tup [sn0, .int .i64 2]) := by
 refine pc_of (by simp [clL, AV.cl, cl_pts]) rfl ?_
 refine vd_start (af := C_delay_of) false rfl (Nat.le_of_ble_eq_true rfl) ?_
 generalize hQ : (fun (v : AV) (_ : Heap) => v = .tup [sn0, .int .i64 2]) = Q
 conv => whnf
 refine vd_pure (dcheck9_c k l hs) ?_
 rw [h]
 conv => whnf
 subst hQ
 rfl
theorem of_out (k : Nat) (l : List Pt) (a : Int) (hs : Small l) (h : delCheck l = 0) (ha : a < 0 ∨ l.length ≤ a) : PC fs ms f_delay_of [.fz k (pts l), .int .i64 a] (.tup [sn0, .int .i64 9]) := by
 refine pc_of (by simp [clL, AV.cl, cl_pts]) rfl ?_
 refine vd_start (af := C_delay_of) false rfl (Nat.le_of_ble_eq_true rfl) ?_
 generalize hQ : (fun (v : AV) (_ : Heap) => v = .tup [sn0, .int .i64 9]) = Q
 conv => whnf
 refine vd_pure (dcheck9_c k l hs) ?_
 rw [h]
 conv => whnf
 by_cases h0 : a < 0
 ·refine brt (by simp; omega) (fun hc => ?_)
  (try rw [hc])
  conv => whnf
  subst hQ
  rfl
 ·refine brf (by simp; omega) (fun hc => ?_)
  (try rw [hc])
  conv => whnf
  refine brt (by rw [len_pts]; simp; omega) (fun hc => ?_)
  (try rw [hc])
  conv => whnf
  subst hQ
  rfl
theorem of_ok (k : Nat) (l : List Pt) (i : Nat) (hs : Small l) (h : delCheck l = 0) (hi : i < l.length) : PC fs ms f_delay_of [.fz k (pts l), .int .i64 (i : Nat)] (.tup [sn l[i] k l (i : Nat), .int .i64 0]) := by
 refine pc_of (by simp [clL, AV.cl, cl_pts]) (by simp [clL, AV.cl, cl_sn]) ?_
 refine vd_start (af := C_delay_of) false rfl (Nat.le_of_ble_eq_true rfl) ?_
 generalize hQ : (fun (v : AV) (_ : Heap) => v = .tup [sn l[i] k l (i : Nat), .int .i64 0]) = Q
 conv => whnf
 refine vd_pure (dcheck9_c k l hs) ?_
 rw [h]
 conv => whnf
 refine brf (by rw [len_pts]; simp; omega) (fun hc => ?_)
 (try rw [hc])
 conv => whnf
 refine ⟨_, idx_pt hi, ?_⟩
 conv => whnf
 subst hQ
 rfl

def dWait (l : List Pt) (a n : Int) : Int × Int := if delCheck l = 2 then (0, 2) else if a < 0 then (0, 9) else match l[a.toNat]? with
 | none => (0, 9)
 | some x => if n < 0 then (0, 9) else match x.ts[n.toNat]? with
  | none => (0, 9)
  | some t => (waitS l a t, 0)

theorem part_c {l : List Pt} (h : delCheck l = 0) {x : Pt} (hx : x ∈ l) {t : Tk} (ht : t ∈ x.ts) : partIn x ∧ taskOk t = true ∧ mayD t x.bud = true := by
 unfold delCheck at h
 split at h
 ·rename_i hh
  have := List.all_eq_true.1 hh.2 x hx
  simp only [partOk, Bool.and_eq_true, decide_eq_true_eq, List.all_eq_true, tasksOk] at this
  exact ⟨this.1, this.2.1.1 t ht, this.2.2 t ht⟩
 ·simp at h
theorem mayD_in {t : Tk} {B : Int} (h : mayD t B = true) : 0 ≤ t.b ∧ t.b ≤ t.w ∧ 0 ≤ t.c ∧ t.c ≤ 4 ∧ ((t.c = 0 ∧ t.e = 0 ∧ t.f = 0) ∨ (t.c ≠ 0 ∧ 1 ≤ t.e ∧ t.e ≤ B ∧ 1 ≤ t.f ∧ t.e * t.f ≤ t.w)) := by simpa [mayD] using h

end Ir
end Go.Proofs.Ytlndlbngfgaoeaa
set_option maxRecDepth 100000
set_option linter.unusedSimpArgs false
set_option linter.unusedVariables false
namespace Go.Proofs.Ytlndlbngfgaoeaa
open Go Ads
namespace Ir

def moreOne (l : List Pt) (a : Int) (t : Tk) : Int := IntKind.i64.wrap (t.f * IntKind.i64.wrap (IntKind.i64.wrap (waitS l a t + t.e) - 1))
def moreL (l : List Pt) (i : Nat) : List Int := match l[i]? with
 | some x => x.ts.map (moreOne l (i : Nat))
 | none => []
def dMore (l : List Pt) (a : Int) : List Int × Int := if delCheck l = 2 then ([], 2) else if a < 0 ∨ l.length ≤ a then ([], 9) else (moreL l a.toNat, 0)
def prL (k : Nat) (p : List Int × Int) : AV := .tup [.fz k (ints p.1), .int .i64 p.2]
def moreH (ts : List Int) (j : Nat) : Heap := ⟨1, .node .nil (some (.cells (ints (fillR ts j)) true 0)) .nil⟩

theorem more_bad {k : Nat} {l : List Pt} {a : Int} (hs : Small l) (h : delCheck l = 2) : PC fs ms f_delay_More [.fz k (pts l), .int .i64 a] (prL 3 ([], 2)) := by
 refine ⟨by simp [clL, AV.cl, cl_pts], rfl, ?_⟩
 refine vd_start (af := C_delay_More) false rfl (Nat.le_of_ble_eq_true rfl) ?_
 generalize hQ : (fun (v : AV) (g : Heap) => Frz (fun _ => True) g v (prL 3 ([], 2))) = Q
 conv => whnf
 refine vd_pure (of_bad k l a hs h) ?_
 conv => whnf
 subst hQ
 exact .tup' (.cons .nils (.cons (.clean rfl) .nil))
theorem more_out {k : Nat} {l : List Pt} {a : Int} (hs : Small l) (h : delCheck l = 0) (ha : a < 0 ∨ l.length ≤ a) : PC fs ms f_delay_More [.fz k (pts l), .int .i64 a] (prL 3 ([], 9)) := by
 refine ⟨by simp [clL, AV.cl, cl_pts], rfl, ?_⟩
 refine vd_start (af := C_delay_More) false rfl (Nat.le_of_ble_eq_true rfl) ?_
 generalize hQ : (fun (v : AV) (g : Heap) => Frz (fun _ => True) g v (prL 3 ([], 9))) = Q
 conv => whnf
 refine vd_pure (of_out k l a hs h ha) ?_
 conv => whnf
 subst hQ
 exact .tup' (.cons .nils (.cons (.clean rfl) .nil))
theorem more_ok {k : Nat} {l : List Pt} {i : Nat} (hs : Small l) (h : delCheck l = 0) (hi : i < l.length) : PC fs ms f_delay_More [.fz k (pts l), .int .i64 (i : Nat)] (prL 2 (moreL l i, 0)) := by
 refine ⟨by simp [clL, AV.cl, cl_pts], by simp [prL, clL, AV.cl, cl_ints], ?_⟩
 refine vd_start (af := C_delay_More) false rfl (Nat.le_of_ble_eq_true rfl) ?_
 have hts := hs.2 _ (List.getElem_mem hi)
 have hM : moreL l i = l[i].ts.map (moreOne l (i : Nat)) := by rw [moreL, List.getElem?_eq_getElem hi]
 have hof := of_ok k l i hs h hi
 rw [hM]
 generalize l[i] = x at *
 generalize hQ : (fun (v : AV) (g : Heap) => Frz (fun _ => True) g v (prL 2 (x.ts.map (moreOne l (i : Nat)), 0))) = Q
 conv => whnf
 refine vd_pure hof ?_
 conv => whnf
 refine ⟨_, _, by rw [len_tks]; exact mk_ints (by omega), ?_⟩
 conv => whnf
 have hlen : (x.ts.map (moreOne l (i : Nat))).length = x.ts.length := by simp
 have hget : ∀ (j : Nat) (h1 : j < x.ts.length) (h2 : j < (x.ts.map (moreOne l (i : Nat))).length), moreOne l (i : Nat) x.ts[j] = (x.ts.map (moreOne l (i : Nat)))[j] := fun j h1 h2 => by simp
 generalize x.ts.map (moreOne l (i : Nat)) = M at *
 refine vc_frz [0] (i := 6) (v' := .fp (sn x k l (i : Nat)).cells 0) rfl (.ptr' (by simp) rfl (.clean (l := (sn x k l (i : Nat)).cells) (cells_cl (cl_sn x k l (i : Nat))))) ?_
 refine vc_lit (B := 0) (H := moreH M 0) (d := 5) (l := [(6, .fp (sn x k l (i : Nat)).cells 0), (8, .sl 0 0 x.ts.length x.ts.length false), (27, .fz x.k (tks x.ts)), (28, .int .i64 (tks x.ts).length), (29, .int .i64 ((0 : Nat) : Int))]) (hk_one _) (fun b => 1) (by repeat' (first | exact trivial | refine renAt_sl rfl (by omega) ?_ | refine renAt_ptr rfl (by omega) ?_ | refine renAt_yield rfl (by omega) ?_ | refine renAt_cl rfl (by first | rfl | simp [clL, AV.cl, cl_ints, cl_tks, cells_cl (cl_sn x k l (i : Nat))]) ?_ | refine renAt_cl (inc_slot (by omega)) rfl ?_)) ⟨by omega, ⟨_, rfl, renB_ints (by rw [fill_zero, hlen])⟩, trivial⟩ (by intro b c hb hc _; simp at hb hc; omega) (by intro b hb; omega) (by omega) ?_
 refine for_rowH 0 5 x.ts.length (fun _ => True) (fun j => [(6, .fp (sn x k l (i : Nat)).cells 0), (8, .sl 0 0 x.ts.length x.ts.length false), (27, .fz x.k (tks x.ts)), (28, .int .i64 (tks x.ts).length), (29, .int .i64 (j : Nat))]) (moreH M) ?_ ?_ trivial
 ·intro j hj _
  have hg := hget j hj (by omega)
  show vpC fs ms 0 false false _ _ ⟨1, .node .nil (some (.cells (ints (fillR M j)) true 0)) .nil⟩ _
  conv => whnf
  refine brt (by rw [len_tks]; simp; omega) (fun hc => ?_)
  (try rw [hc])
  conv => whnf
  refine ⟨_, idx_tk hj, ?_⟩
  conv => whnf
  refine vd_pure (wait9_c x k l (i : Nat) x.ts[j] hs) ?_
  conv => whnf
  refine ⟨_, idx_sl hj, ?_⟩
  conv => whnf
  refine brT (by show (Nat.ble (j + 1) (ints (fillR M j)).length && true) = true; rw [len_ints, len_fill M (by omega), hlen, Bool.and_true]; exact Nat.ble_eq_true_of_le (by omega)) ?_
  conv => whnf
  refine ⟨winOk_of (by (conv => whnf); repeat' (first | exact trivial | (exact ⟨rfl, rfl, .inr ⟨_, _, rfl⟩⟩) | (refine ⟨rfl, rfl, .inl ⟨rfl, fun o ho => ?_⟩⟩; cases ho; first | rfl) | (exact ⟨rfl, .inr ⟨_, _, rfl⟩⟩) | (refine ⟨rfl, .inl ⟨rfl, fun i o hi ho => ?_⟩⟩; cases hi; cases ho; first | rfl) | (refine And.intro (fun hon => (Bool.false_ne_true hon).elim) ?_ <;> conv => whnf) | (refine And.intro (fun _ => ?_) ?_ <;> conv => whnf) | (refine And.intro ?_ ?_ <;> conv => whnf))), ?_⟩
  conv => whnf
  exact ⟨trivial, id, gc_lit (H := moreH M (j + 1)) (hk_one _) _ (by repeat' (first | exact trivial | refine renAt_sl rfl (by omega) ?_ | refine renAt_ptr rfl (by omega) ?_ | refine renAt_yield rfl (by omega) ?_ | refine renAt_cl rfl (by first | rfl | simp [clL, AV.cl, cl_ints, cl_tks, cells_cl (cl_sn x k l (i : Nat))]) ?_ | refine renAt_cl (inc_slot (by omega)) rfl ?_)) ⟨by omega, ⟨_, rfl, renB_ints (fill_put M (by omega) hg)⟩, trivial⟩ (by intro b c hb hc _; simp at hb hc; omega) (by intro b hb; omega) (by omega)⟩
 ·intro _
  show vpC fs ms 0 false false _ _ ⟨1, .node .nil (some (.cells (ints (fillR M x.ts.length)) true 0)) .nil⟩ _
  conv => whnf
  refine brf (by rw [len_tks]; simp) (fun hc => ?_)
  (try rw [hc])
  conv => whnf
  subst hQ
  rw [← hlen, fill_end]
  exact .tup' (.cons (.row (s := 1) trivial rfl (flat_ints M).symm (size_ints M) (by rw [len_ints]) (Nat.le_refl _) (by omega) (fun _ => rfl) (fun _ => rfl) (cl_ints M)) (.cons (.clean rfl) .nil))
end Ir
end Go.Proofs.Ytlndlbngfgaoeaa
set_option maxRecDepth 100000
set_option linter.unusedSimpArgs false
set_option linter.unusedVariables false
namespace Go.Proofs.Ytlndlbngfgaoeaa
open Go Ads
namespace Ir

def mx (a b : Int) : Int := cond (decide (b > a)) b a
theorem mx_max (a b : Int) : mx a b = max a b := by
 unfold mx
 by_cases h : b > a
 ·rw [decide_eq_true h, cond_true]; omega
 ·rw [decide_eq_false h, cond_false]; omega
def waitMore (l : List Pt) (a : Int) (t : Tk) : Int := IntKind.i64.wrap (IntKind.i64.wrap (waitS l a t + IntKind.i64.wrap (2 * t.e)) - 1)
def byOne (l : List Pt) (a : Int) (t : Tk) : Int := if t.c = 0 then t.b else mx t.b (waitMore l a t)
def ofN (l : List Pt) (a n : Int) (ts : List Tk) : Nat → Int
 | 0 => 0
 | j + 1 => match ts[j]? with
  | some t => if t.d > n then mx (ofN l a n ts j) (byOne l a t) else ofN l a n ts j
  | none => ofN l a n ts j
theorem ofN_next {l : List Pt} {a n : Int} {ts : List Tk} {j : Nat} (h : j < ts.length) : ofN l a n ts (j + 1) = if ts[j].d > n then mx (ofN l a n ts j) (byOne l a ts[j]) else ofN l a n ts j := by
 rw [ofN, List.getElem?_eq_getElem h]
def dOf9 (l : List Pt) (a n : Int) : Int × Int := if delCheck l = 2 then (0, 2) else if a < 0 then (0, 9) else match l[a.toNat]? with
 | none => (0, 9)
 | some x => if n < 0 then (0, 2) else (ofN l a n x.ts x.ts.length, 0)

theorem by_c (x : Pt) (k : Nat) (l : List Pt) (a : Int) (t : Tk) (hs : Small l) : PC fs ms f_delay_seen_by [sn x k l a, tk t] (.int .i64 (byOne l a t)) := by
 refine pc_of (by simp [clL, cl_sn]; rfl) rfl ?_
 refine vd_start (af := C_delay_seen_by) false rfl (Nat.le_of_ble_eq_true rfl) ?_
 generalize hQ : (fun (v : AV) (_ : Heap) => v = .int .i64 (byOne l a t)) = Q
 conv => whnf
 by_cases hc0 : t.c = 0
 ·refine brt (by simp [hc0]) (fun hc => ?_)
  (try rw [hc])
  conv => whnf
  subst hQ
  rw [byOne, if_pos hc0]
 ·refine brf (by simp [hc0]) (fun hc => ?_)
  (try rw [hc])
  conv => whnf
  refine vd_pure (wait9_c x k l a t hs) ?_
  conv => whnf
  refine ⟨winOk_of (by (conv => whnf); repeat' (first | exact trivial | (exact ⟨rfl, rfl, .inr ⟨_, _, rfl⟩⟩) | (refine ⟨rfl, rfl, .inl ⟨rfl, fun o ho => ?_⟩⟩; cases ho; first | rfl) | (exact ⟨rfl, .inr ⟨_, _, rfl⟩⟩) | (refine ⟨rfl, .inl ⟨rfl, fun i o hi ho => ?_⟩⟩; cases hi; cases ho; first | rfl) | (refine And.intro (fun hon => (Bool.false_ne_true hon).elim) ?_ <;> conv => whnf) | (refine And.intro (fun _ => ?_) ?_ <;> conv => whnf) | (refine And.intro ?_ ?_ <;> conv => whnf))), ?_⟩
  conv => whnf
  subst hQ
  rw [byOne, if_neg hc0]
  rfl

theorem dOf9_c (k : Nat) (l : List Pt) (a n : Int) (hs : Small l) : PC fs ms f_delay_Of [.fz k (pts l), .int .i64 a, .int .i64 n] (.tup [.int .i64 (dOf9 l a n).1, .int .i64 (dOf9 l a n).2]) := by
 refine pc_of (by simp [clL, AV.cl, cl_pts]) rfl ?_
 refine vd_start (af := C_delay_Of) false rfl (Nat.le_of_ble_eq_true rfl) ?_
 generalize hQ : (fun (v : AV) (_ : Heap) => v = .tup [.int .i64 (dOf9 l a n).1, .int .i64 (dOf9 l a n).2]) = Q
 conv => whnf
 rcases delCheck_or l with h | h
 ·by_cases ha : a < 0 ∨ l.length ≤ a
  ·refine vd_pure (of_out k l a hs h ha) ?_
   conv => whnf
   subst hQ
   rw [dOf9, if_neg (by omega)]
   by_cases h0 : a < 0
   ·rw [if_pos h0]
   ·rw [if_neg h0, List.getElem?_eq_none (by omega)]
  ·obtain ⟨i, rfl⟩ := Int.eq_ofNat_of_zero_le (show 0 ≤ a by omega)
   have hi : i < l.length := by omega
   have hti : ((i : Int)).toNat = i := rfl
   have hof := of_ok k l i hs h hi
   have hts := hs.2 _ (List.getElem_mem hi)
   have hd : dOf9 l (i : Nat) n = if n < 0 then (0, 2) else (ofN l (i : Nat) n l[i].ts l[i].ts.length, 0) := by
    rw [dOf9, if_neg (by omega), if_neg (by omega), hti, List.getElem?_eq_getElem hi]
   refine vd_pure hof ?_
   clear hof
   generalize l[i] = x at *
   conv => whnf
   by_cases h0 : n < 0
   ·refine brt (by simp; omega) (fun hc => ?_)
    (try rw [hc])
    conv => whnf
    subst hQ
    rw [hd, if_pos h0]
   ·refine brf (by simp; omega) (fun hc => ?_)
    (try rw [hc])
    conv => whnf
    rw [if_neg h0] at hd
    refine vc_frz [0] (i := 8) (v' := .fp (sn x k l (i : Nat)).cells 0) rfl (.ptr' (by simp) rfl (.clean (l := (sn x k l (i : Nat)).cells) (cells_cl (cl_sn x k l (i : Nat))))) ?_
    refine vc_to0 5 [(2, .int .i64 n), (6, .int .i64 (ofN l (i : Nat) n x.ts 0)), (8, .fp (sn x k l (i : Nat)).cells 0), (26, .fz x.k (tks x.ts)), (27, .int .i64 (tks x.ts).length), (28, .int .i64 ((0 : Nat) : Int))] (by repeat' (first | exact trivial | refine renAt_sl rfl (by omega) ?_ | refine renAt_ptr rfl (by omega) ?_ | refine renAt_yield rfl (by omega) ?_ | refine renAt_cl rfl (by first | rfl | simp [clL, AV.cl, cl_ints, cl_tks, cells_cl (cl_sn x k l (i : Nat))]) ?_ | refine renAt_cl (inc_slot (by omega)) rfl ?_)) ?_
    refine for_row 5 x.ts.length (fun _ => True) (fun j => [(2, .int .i64 n), (6, .int .i64 (ofN l (i : Nat) n x.ts j)), (8, .fp (sn x k l (i : Nat)).cells 0), (26, .fz x.k (tks x.ts)), (27, .int .i64 (tks x.ts).length), (28, .int .i64 (j : Nat))]) ?_ ?_ trivial
    ·intro j hj _
     have hn := ofN_next (l := l) (a := (i : Nat)) (n := n) hj
     have hidx := idx_tk (k := x.k) hj
     generalize x.ts[j] = t at *
     show vpC fs ms 0 false false _ (ek 5 [(2, .int .i64 n), (6, .int .i64 (ofN l (i : Nat) n x.ts j)), (8, .fp (sn x k l (i : Nat)).cells 0), (26, .fz x.k (tks x.ts)), (27, .int .i64 (tks x.ts).length), (28, .int .i64 (j : Nat))]) _ _
     generalize ofN l (i : Nat) n x.ts j = m at *
     conv => whnf
     refine brt (by rw [len_tks]; simp; omega) (fun hc => ?_)
     (try rw [hc])
     conv => whnf
     refine ⟨_, hidx, ?_⟩
     conv => whnf
     by_cases hdn : t.d > n
     ·rw [if_pos hdn] at hn
      refine brt (by simp; omega) (fun hc => ?_)
      (try rw [hc])
      conv => whnf
      refine vd_pure (by_c x k l (i : Nat) t hs) ?_
      conv => whnf
      refine ⟨trivial, ⟨_, rfl, .cl rfl⟩, ⟨_, congrArg (fun b => some (AV.int .i64 b)) hn.symm, .cl rfl⟩, ⟨_, rfl, .cl (by simp [AV.cl, cells_cl (cl_sn x k l (i : Nat))])⟩, ⟨_, rfl, .cl (by simp [AV.cl, cl_tks])⟩, ⟨_, rfl, .cl rfl⟩, ⟨_, inc_slot (by omega), .cl rfl⟩, trivial⟩
     ·rw [if_neg hdn] at hn
      refine brf (by simp; omega) (fun hc => ?_)
      (try rw [hc])
      conv => whnf
      refine ⟨trivial, ⟨_, rfl, .cl rfl⟩, ⟨_, congrArg (fun b => some (AV.int .i64 b)) hn.symm, .cl rfl⟩, ⟨_, rfl, .cl (by simp [AV.cl, cells_cl (cl_sn x k l (i : Nat))])⟩, ⟨_, rfl, .cl (by simp [AV.cl, cl_tks])⟩, ⟨_, rfl, .cl rfl⟩, ⟨_, inc_slot (by omega), .cl rfl⟩, trivial⟩
    ·intro _
     conv => whnf
     refine brf (by rw [len_tks]; simp) (fun hc => ?_)
     (try rw [hc])
     conv => whnf
     subst hQ
     rw [hd]
 ·refine vd_pure (of_bad k l a hs h) ?_
  conv => whnf
  subst hQ
  rw [dOf9, if_pos h]

end Ir
end Go.Proofs.Ytlndlbngfgaoeaa
set_option maxRecDepth 100000
set_option linter.unusedSimpArgs false
set_option linter.unusedVariables false
namespace Go.Proofs.Ytlndlbngfgaoeaa
open Go Ads
namespace Ir

theorem ok_in {l : List Pt} (h : delCheck l = 0) : l.length ≤ 4 ∧ ∀ x, x ∈ l → partIn x ∧ x.ts.length ≤ 4 ∧ ∀ t, t ∈ x.ts → taskOk t = true ∧ mayD t x.bud = true := by
 unfold delCheck at h
 split at h
 ·rename_i h1
  refine ⟨h1.1, fun x hx => ?_⟩
  have h2 := List.all_eq_true.1 h1.2 x hx
  simp only [partOk, Bool.and_eq_true, tasksOk, List.all_eq_true] at h2
  exact ⟨of_decide_eq_true h2.1, of_decide_eq_true h2.2.1.2, fun t ht => ⟨h2.2.1.1 t ht, h2.2.2 t ht⟩⟩
 ·omega
theorem waitN_in {l : List Pt} (h : delCheck l = 0) (a g : Int) : ∀ j, j ≤ l.length → 0 ≤ waitN l a g j ∧ waitN l a g j ≤ 128 * j
 | 0, _ => by simp [waitN]
 | j + 1, hj => by
  have ih := waitN_in h a g j (by omega)
  have hl := (ok_in h).1
  have hp := ((ok_in h).2 _ (List.getElem_mem (show j < l.length by omega))).1
  unfold partIn at hp
  rw [waitN_next (show j < l.length by omega)]
  split
  ·rw [IntWalk.i64_in (2 * _) (by omega), IntWalk.i64_in _ (by omega)]
   omega
  ·omega
theorem waitN_sum {l : List Pt} (h : delCheck l = 0) (a g : Int) (j : Nat) (hj : j < l.length) : waitN l a g (j + 1) = if (j : Int) ≠ a ∧ usesP l[j] g = true then waitN l a g j + 2 * l[j].per else waitN l a g j := by
 have ih := waitN_in h a g j (by omega)
 have hl := (ok_in h).1
 have hp := ((ok_in h).2 _ (List.getElem_mem (show j < l.length by omega))).1
 unfold partIn at hp
 rw [waitN_next (show j < l.length by omega)]
 split
 ·rw [IntWalk.i64_in (2 * _) (by omega), IntWalk.i64_in _ (by omega)]
 ·rfl
theorem waitS_in {l : List Pt} (h : delCheck l = 0) (a : Int) (t : Tk) : 0 ≤ waitS l a t ∧ waitS l a t ≤ 512 := by
 unfold waitS
 split
 ·omega
 ·have := waitN_in h a t.c l.length (Nat.le_refl _)
  have hl := (ok_in h).1
  omega
theorem waitMore_eq {l : List Pt} (h : delCheck l = 0) (a : Int) (t : Tk) (he : 0 ≤ t.e ∧ t.e ≤ 64) : waitMore l a t = waitS l a t + 2 * t.e - 1 := by
 have := waitS_in h a t
 unfold waitMore
 rw [IntWalk.i64_in (2 * _) (by omega), IntWalk.i64_in (_ + _) (by omega), IntWalk.i64_in _ (by omega)]
theorem tk_in {l : List Pt} (h : delCheck l = 0) {x : Pt} (hx : x ∈ l) {t : Tk} (ht : t ∈ x.ts) : (1 ≤ t.w ∧ t.w ≤ t.d ∧ t.d ≤ t.p ∧ t.p ≤ 64) ∧ 0 ≤ t.b ∧ t.b ≤ t.w ∧ 0 ≤ t.c ∧ t.c ≤ 4 ∧ ((t.c = 0 ∧ t.e = 0 ∧ t.f = 0) ∨ (t.c ≠ 0 ∧ 1 ≤ t.e ∧ t.e ≤ x.bud ∧ 1 ≤ t.f ∧ t.e * t.f ≤ t.w)) :=
 ⟨taskOk_in (((ok_in h).2 x hx).2.2 t ht).1, mayD_in (((ok_in h).2 x hx).2.2 t ht).2⟩
theorem e_in {l : List Pt} (h : delCheck l = 0) {x : Pt} (hx : x ∈ l) {t : Tk} (ht : t ∈ x.ts) : 0 ≤ t.e ∧ t.e ≤ 64 := by
 have h1 := tk_in h hx ht
 have h2 := ((ok_in h).2 x hx).1
 unfold partIn at h2
 omega
theorem byOne_in {l : List Pt} (h : delCheck l = 0) (a : Int) {x : Pt} (hx : x ∈ l) {t : Tk} (ht : t ∈ x.ts) : 0 ≤ byOne l a t ∧ t.b ≤ byOne l a t ∧ t.e ≤ byOne l a t := by
 have h1 := tk_in h hx ht
 have h2 := e_in h hx ht
 have h3 := waitS_in h a t
 unfold byOne
 split
 ·omega
 ·rw [mx_max, waitMore_eq h a t h2]
  omega

theorem ofN_nonneg {l : List Pt} (a n : Int) (ts : List Tk) : ∀ j, j ≤ ts.length → 0 ≤ ofN l a n ts j
 | 0, _ => by simp [ofN]
 | j + 1, hj => by
  have ih := ofN_nonneg (l := l) a n ts j (by omega)
  rw [ofN_next (show j < ts.length by omega)]
  split
  ·rw [mx_max]; omega
  ·exact ih
theorem ofN_mono {l : List Pt} (a n n' : Int) (hn : n ≤ n') (ts : List Tk) : ∀ j, j ≤ ts.length → ofN l a n' ts j ≤ ofN l a n ts j
 | 0, _ => by simp [ofN]
 | j + 1, hj => by
  have ih := ofN_mono (l := l) a n n' hn ts j (by omega)
  have hlt : j < ts.length := by omega
  rw [ofN_next hlt, ofN_next hlt]
  split
  ·rw [if_pos (by omega), mx_max, mx_max]; omega
  ·split
   ·rw [mx_max]; omega
   ·exact ih
theorem ofN_zero {l : List Pt} (a n : Int) (ts : List Tk) (hd : ∀ t, t ∈ ts → t.d ≤ n) : ∀ j, j ≤ ts.length → ofN l a n ts j = 0
 | 0, _ => by simp [ofN]
 | j + 1, hj => by
  have hlt : j < ts.length := by omega
  have := hd _ (List.getElem_mem hlt)
  rw [ofN_next hlt, if_neg (by omega), ofN_zero a n ts hd j (by omega)]
theorem ofN_ge {l : List Pt} (a n : Int) (ts : List Tk) : ∀ j, j ≤ ts.length → ∀ (i : Nat) (hi : i < ts.length), i < j → ts[i].d > n → byOne l a ts[i] ≤ ofN l a n ts j
 | 0, _, i, _, hij, _ => by omega
 | j + 1, hj, i, hi, hij, hd => by
  have hlt : j < ts.length := by omega
  rw [ofN_next hlt]
  by_cases hji : i = j
  ·subst hji
   rw [if_pos hd, mx_max]; omega
  ·have ih := ofN_ge (l := l) a n ts j (by omega) i hi (by omega) hd
   split
   ·rw [mx_max]; omega
   ·exact ih

theorem dOf9_ok {l : List Pt} (h : delCheck l = 0) {i : Nat} (hi : i < l.length) {n : Int} (hn : 0 ≤ n) : dOf9 l (i : Nat) n = (ofN l (i : Nat) n l[i].ts l[i].ts.length, 0) := by
 rw [dOf9, if_neg (by omega), if_neg (by omega), show ((i : Int)).toNat = i from rfl, List.getElem?_eq_getElem hi]
 simp only
 rw [if_neg (by omega)]

end Ir
end Go.Proofs.Ytlndlbngfgaoeaa
