/-
  Delay: how long a task waits, of both.
-/
import Derived.Test.YtlndlbngfgaoeaaVDelC
set_option maxRecDepth 100000
set_option linter.unusedSimpArgs false
set_option linter.unusedVariables false
namespace Go.Proofs.Ytlndlbngfgaoeaa
open Go Ads
namespace Ir

def usesP (x : Pt) (g : Int) : Bool := x.ts.any fun t => t.c == g
/-- How long is waited for the first ones. -/
def waitN (l : List Pt) (a g : Int) : Nat → Int
  | 0 => 0
  | j + 1 => match l[j]? with
    | some x => if (j : Int) ≠ a ∧ usesP x g = true then IntKind.i64.wrap (waitN l a g j + IntKind.i64.wrap (2 * x.per)) else waitN l a g j
    | none => waitN l a g j
theorem waitN_next {l : List Pt} {a g : Int} {j : Nat} (h : j < l.length) : waitN l a g (j + 1) = if (j : Int) ≠ a ∧ usesP l[j] g = true then IntKind.i64.wrap (waitN l a g j + IntKind.i64.wrap (2 * l[j].per)) else waitN l a g j := by
  rw [waitN, List.getElem?_eq_getElem h]
def waitS (l : List Pt) (a : Int) (t : Tk) : Int := if t.c = 0 then 0 else waitN l a t.c l.length
def sn (x : Pt) (k : Nat) (l : List Pt) (a : Int) : AV := .agg [.int .i64 x.per, .int .i64 x.bud, .fz x.k (tks x.ts), .fz k (pts l), .int .i64 a]
theorem cl_sn (x : Pt) (k : Nat) (l : List Pt) (a : Int) : (sn x k l a).cl = true := by simp [sn, AV.cl, clL, cl_tks, cl_pts]

theorem one_c (t : Tk) (g : Int) : PC fs ms f_delay_seen_sharers_1_1 [tk t, .fp [.int .i64 g] 0] (.bool (t.c == g)) := by
  refine pc_of rfl rfl ?_
  refine vd_start (af := C_delay_seen_sharers_1_1) false rfl (Nat.le_of_ble_eq_true rfl) ?_
  generalize hQ : (fun (v : AV) (_ : Heap) => v = .bool (t.c == g)) = Q
  set_option smartUnfolding false in conv => whnf
  subst hQ
  rfl

theorem sharers_c (x : Pt) (k : Nat) (l : List Pt) (a g : Int) : PC fs ms f_delay_seen_sharers [sn x k l a, .int .i64 g] (.func (.func f_delay_seen_sharers_1) [] [.fp (sn x k l a).cells 0, .fp [.int .i64 g] 0]) := by
  refine ⟨by simp [clL, AV.cl, cl_sn], by simp [clL, AV.cl, cells_cl (cl_sn x k l a)], ?_⟩
  refine vd_start (af := C_delay_seen_sharers) false rfl (Nat.le_of_ble_eq_true rfl) ?_
  generalize hQ : (fun (u : AV) (h : Heap) => Frz (fun _ => True) h u (.func (.func f_delay_seen_sharers_1) [] [.fp (sn x k l a).cells 0, .fp [.int .i64 g] 0])) = Q
  set_option smartUnfolding false in conv => whnf
  subst hQ
  exact .func' .nil (.cons (.ptr' trivial rfl (.clean (l := (sn x k l a).cells) (cells_cl (cl_sn x k l a)))) (.cons (.ptr' trivial rfl (.clean (l := [.int .i64 g]) rfl)) .nil))

def rangeA : AC → AC
  | .seq a b => match rangeA a with | .bad => rangeA b | x => x
  | .cond _ a b => match rangeA a with | .bad => rangeA b | x => x
  | .block _ c => rangeA c
  | .rangeFunc _ _ a _ => a
  | _ => .bad
def rangeB : AC → AC
  | .seq a b => match rangeB a with | .bad => rangeB b | x => x
  | .cond _ a b => match rangeB a with | .bad => rangeB b | x => x
  | .block _ c => rangeB c
  | .rangeFunc _ _ _ b => b
  | _ => .bad
def wA : AC := rangeA C_delay_seen_wait.body
def wB : AC := rangeB C_delay_seen_wait.body
def wE (F : AV) : Env := ek 4 [(4, .ptr 0 0), (12, F)]
def wH (F : AV) (n : Int) : Heap := ⟨2, .node (.node .nil (some (.loop 0 none (wE F) [13] wA wB)) .nil) (some (.cells [.int .i64 n] true 0)) .nil⟩

theorem wH_two (F : AV) (n : Int) : wH F n = hk 2 [(0, .cells [.int .i64 n] true 0), (1, .loop 0 none (wE F) [13] wA wB)] := hk_two _ _

theorem iter_d (x : Pt) (k : Nat) (l : List Pt) (a g : Int) {F : AV} (hF : F.cl = true) (hs : Small l) : VD fs ms f_delay_seen_sharers_1 [.yield 1, .fp (sn x k l a).cells 0, .fp [.int .i64 g] 0] (wH F 0) (fun _ h2 => h2 = wH F (waitN l a g l.length)) := by
  have hs1 := hs.1
  refine vd_start (af := C_delay_seen_sharers_1) false rfl (Nat.le_of_ble_eq_true rfl) ?_
  generalize hQ : (fun (v : AV) (h2 : Heap) => h2 = wH F (waitN l a g l.length)) = Q
  show startF _ _ fun e => vpC fs ms 2 false false _ e ⟨2, .node (.node .nil (some (.loop 0 none (wE F) [13] wA wB)) .nil) (some (.cells [.int .i64 0] true 0)) .nil⟩ _
  set_option smartUnfolding false in conv => whnf
  refine vc_lit (B := 2) (H := wH F (waitN l a g 0)) (d := 4) (l := [(0, .yield 1), (1, .fp (sn x k l a).cells 0), (2, .fp [.int .i64 g] 0), (8, .fz k (pts l)), (9, .int .i64 (pts l).length), (10, .int .i64 ((0 : Nat) : Int))]) (hk_two _ _) id (by repeat' (first | exact trivial | refine renAt_sl rfl (by omega) ?_ | refine renAt_ptr rfl (by omega) ?_ | refine renAt_yield rfl (by omega) ?_ | refine renAt_cl rfl (by first | rfl | simp [clL, AV.cl, cl_ints, cl_pts, cells_cl (cl_sn x k l a)]) ?_ | refine renAt_cl (inc_slot (by omega)) rfl ?_))
    ⟨by omega, ⟨_, rfl, renB_cl rfl rfl⟩, by omega, ⟨_, rfl, renB_loop (by simp; exact ⟨.ptr (by omega), .cl hF⟩)⟩, trivial⟩ (by intro b c hb hc h; exact h) (fun b hb => rfl) (Nat.le_refl _) ?_
  refine for_rowH 2 4 l.length (fun _ => True) (fun j => [(0, .yield 1), (1, .fp (sn x k l a).cells 0), (2, .fp [.int .i64 g] 0), (8, .fz k (pts l)), (9, .int .i64 (pts l).length), (10, .int .i64 (j : Nat))]) (fun j => wH F (waitN l a g j)) ?_ ?_ trivial
  · intro j hj _
    have hts := hs.2 _ (List.getElem_mem hj)
    have hn := waitN_next (a := a) (g := g) hj
    have hix := idx_pt (k := k) hj
    generalize l[j] = y at *
    show vpC fs ms 2 false false _ (ek 4 _) ⟨2, .node (.node .nil (some (.loop 0 none (wE F) [13] wA wB)) .nil) (some (.cells [.int .i64 (waitN l a g j)] true 0)) .nil⟩ _
    generalize waitN l a g j = n at *
    set_option smartUnfolding false in conv => whnf
    refine br (fun hc => ?_) (fun hc => ?_) <;> (try rw [hc]) <;> (set_option smartUnfolding false in conv => whnf)
    · refine ⟨_, hix, ?_⟩
      set_option smartUnfolding false in conv => whnf
      refine vd_view (cfT_c (p := fun t => t.c == g) (capt := [.fp [.int .i64 g] 0]) y.k y.ts (by omega) rfl (fun t _ => one_c t g)) rfl (.cons (.clean (by simp [AV.cl, cl_tks])) (.cons (.clean rfl) .nil)) ?_
      cases hu : (y.ts.any fun t => t.c == g) with
      | false =>
        set_option smartUnfolding false in conv => whnf
        rw [if_neg (by rintro ⟨_, z⟩; rw [usesP, hu] at z; exact absurd z (by decide))] at hn
        iterate 2 (all_goals (first | (refine br (fun hc => ?_) (fun hc => ?_) <;> (try rw [hc]) <;> (set_option smartUnfolding false in conv => whnf)) | skip))
        all_goals (refine ⟨trivial, id, gc_lit (H := wH F (waitN l a g (j + 1))) ((congrArg (wH F) hn).trans (wH_two _ _)) _ (by repeat' (first | exact trivial | refine renAt_sl rfl (by omega) ?_ | refine renAt_ptr rfl (by omega) ?_ | refine renAt_yield rfl (by omega) ?_ | refine renAt_cl rfl (by first | rfl | simp [clL, AV.cl, cl_ints, cl_pts, cells_cl (cl_sn x k l a)]) ?_ | refine renAt_cl (inc_slot (by omega)) rfl ?_)) ⟨by omega, ⟨_, rfl, renB_cl rfl rfl⟩, by omega, ⟨_, rfl, renB_loop (by simp; exact ⟨.ptr (by omega), .cl hF⟩)⟩, trivial⟩ (by intro b c hb hc h; exact h) (fun b hb => rfl) (Nat.le_refl _)⟩)
      | true =>
        set_option smartUnfolding false in conv => whnf
        by_cases hja : (j : Int) ≠ a
        · rw [if_pos ⟨hja, hu⟩] at hn
          refine brt (by simpa using hja) (fun hc => ?_)
          (try rw [hc])
          set_option smartUnfolding false in conv => whnf
          refine vd_yield rfl rfl ?_
          refine vpC_sound (z := false) ?_
          set_option smartUnfolding false in conv => whnf
          refine ⟨rfl, none, rfl, ?_⟩
          refine vpC_sound (z := false) ?_
          set_option smartUnfolding false in conv => whnf
          refine ⟨by simp, ⟨1, none, rfl⟩, ?_⟩
          set_option smartUnfolding false in conv => whnf
          refine ⟨trivial, id, gc_lit (H := wH F (waitN l a g (j + 1))) ((congrArg (wH F) hn).trans (wH_two _ _)) _ (by repeat' (first | exact trivial | refine renAt_sl rfl (by omega) ?_ | refine renAt_ptr rfl (by omega) ?_ | refine renAt_yield rfl (by omega) ?_ | refine renAt_cl rfl (by first | rfl | simp [clL, AV.cl, cl_ints, cl_pts, cells_cl (cl_sn x k l a)]) ?_ | refine renAt_cl (inc_slot (by omega)) rfl ?_)) ⟨by omega, ⟨_, rfl, renB_cl rfl rfl⟩, by omega, ⟨_, rfl, renB_loop (by simp; exact ⟨.ptr (by omega), .cl hF⟩)⟩, trivial⟩ (by intro b c hb hc h; exact h) (fun b hb => rfl) (Nat.le_refl _)⟩
        · rw [if_neg (fun z => hja z.1)] at hn
          refine brf (by simpa using hja) (fun hc => ?_)
          (try rw [hc])
          set_option smartUnfolding false in conv => whnf
          refine ⟨trivial, id, gc_lit (H := wH F (waitN l a g (j + 1))) ((congrArg (wH F) hn).trans (wH_two _ _)) _ (by repeat' (first | exact trivial | refine renAt_sl rfl (by omega) ?_ | refine renAt_ptr rfl (by omega) ?_ | refine renAt_yield rfl (by omega) ?_ | refine renAt_cl rfl (by first | rfl | simp [clL, AV.cl, cl_ints, cl_pts, cells_cl (cl_sn x k l a)]) ?_ | refine renAt_cl (inc_slot (by omega)) rfl ?_)) ⟨by omega, ⟨_, rfl, renB_cl rfl rfl⟩, by omega, ⟨_, rfl, renB_loop (by simp; exact ⟨.ptr (by omega), .cl hF⟩)⟩, trivial⟩ (by intro b c hb hc h; exact h) (fun b hb => rfl) (Nat.le_refl _)⟩
    · exfalso
      have := of_decide_eq_false hc
      simp only [len_pts] at this
      omega
  · intro _
    show vpC fs ms 2 false false _ (ek 4 _) ⟨2, .node (.node .nil (some (.loop 0 none (wE F) [13] wA wB)) .nil) (some (.cells [.int .i64 (waitN l a g l.length)] true 0)) .nil⟩ _
    generalize hn : waitN l a g l.length = n at *
    set_option smartUnfolding false in conv => whnf
    refine brf (by rw [len_pts]; simp) (fun hc => ?_)
    (try rw [hc])
    set_option smartUnfolding false in conv => whnf
    subst hQ
    rfl

theorem wait9_c (x : Pt) (k : Nat) (l : List Pt) (a : Int) (t : Tk) (hs : Small l) : PC fs ms f_delay_seen_wait [sn x k l a, tk t] (.int .i64 (waitS l a t)) := by
  refine pc_of (by simp [clL, cl_sn]; rfl) rfl ?_
  refine vd_start (af := C_delay_seen_wait) false rfl (Nat.le_of_ble_eq_true rfl) ?_
  generalize hQ : (fun (v : AV) (_ : Heap) => v = .int .i64 (waitS l a t)) = Q
  set_option smartUnfolding false in conv => whnf
  refine br (fun hc => ?_) (fun hc => ?_) <;> (try rw [hc]) <;> (set_option smartUnfolding false in conv => whnf)
  · subst hQ
    simp at hc
    rw [waitS, if_pos hc]
  · refine vd_pure (sharers_c x k l a t.c) ?_
    set_option smartUnfolding false in conv => whnf
    refine vc_lit (B := 0) (d := 4) (l := [(4, .ptr 0 0), (12, .func (.func f_delay_seen_sharers_1) [] [.fp (sn x k l a).cells 0, .fp [.int .i64 t.c] 0])]) (hk_one (.cells [.int .i64 0] true 0)) (fun b => 2) (by repeat' (first | exact trivial | refine renAt_sl rfl (by omega) ?_ | refine renAt_ptr rfl (by omega) ?_ | refine renAt_yield rfl (by omega) ?_ | refine renAt_cl rfl (by first | rfl | simp [clL, AV.cl, cl_ints, cells_cl (cl_sn x k l a)]) ?_ | refine renAt_cl (inc_slot (by omega)) rfl ?_)) ⟨by omega, ⟨_, rfl, renB_cl rfl rfl⟩, trivial⟩ (by intro b c hb hc _; simp at hb hc; omega) (by intro b hb; omega) (by omega) ?_
    show VC fs ms 0 false (.rangeFunc (.t 12) [13] wA wB) _ _ _
    refine vc_range rfl rfl ?_
    have hF : (AV.func (.func f_delay_seen_sharers_1) [] [.fp (sn x k l a).cells 0, .fp [.int .i64 t.c] 0]).cl = true := by simp [clL, AV.cl, cells_cl (cl_sn x k l a)]
    refine VD.mono (iter_d x k l a t.c hF hs) fun v h2 h => ?_
    subst h
    refine ⟨.normal, 0, rfl, by decide, by simp, ?_⟩
    set_option smartUnfolding false in conv => whnf
    subst hQ
    simp at hc
    rw [waitS, if_neg hc]
end Ir
end Go.Proofs.Ytlndlbngfgaoeaa
