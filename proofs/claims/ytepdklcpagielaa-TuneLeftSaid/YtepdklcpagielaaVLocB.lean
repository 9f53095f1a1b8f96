/-
  Local: the test of a partition.
-/
import Derived.Test.YtepdklcpagielaaVLocA
set_option maxRecDepth 100000
set_option linter.unusedSimpArgs false
set_option linter.unusedVariables false
namespace Go.Proofs.Ytepdklcpagielaa
open Go Ads
namespace Ir

def firstBad (p : Nat → Bool) : Nat → Nat → Option Nat
  | _, 0 => none
  | t, n + 1 => if p t = true then some t else firstBad p (t + 1) n
theorem firstBad_none {p : Nat → Bool} : ∀ {n t : Nat}, firstBad p t n = none → ∀ j, j < n → p (t + j) = false
  | 0, _, _, j, hj => by omega
  | n + 1, t, h, j, hj => by
    rw [firstBad] at h
    split at h
    · cases h
    · rename_i hp
      cases j with
      | zero => simpa using hp
      | succ j => rw [show t + (j + 1) = t + 1 + j by omega]; exact firstBad_none h j (by omega)
theorem firstBad_some {p : Nat → Bool} : ∀ {n t u : Nat}, firstBad p t n = some u → t ≤ u ∧ u < t + n ∧ p u = true ∧ ∀ v, t ≤ v → v < u → p v = false
  | 0, _, _, h => by simp [firstBad] at h
  | n + 1, t, u, h => by
    rw [firstBad] at h
    split at h
    · rename_i hp
      cases h
      exact ⟨Nat.le_refl _, by omega, hp, fun v h1 h2 => by omega⟩
    · rename_i hp
      obtain ⟨h1, h2, h3, h4⟩ := firstBad_some h
      refine ⟨by omega, by omega, h3, fun v h5 h6 => ?_⟩
      by_cases hv : v = t
      · subst hv; simpa using hp
      · exact h4 v (by omega) h6

def badB (x : Pt) (l : List Pt) (a : Int) (m : List Int) (t : Nat) : Bool := decide (asksI x m (t : Nat) > 0) && decide (slackI x l a m (t : Nat) < 0)

def lA : AC := L_local_Test_1a
def lB : AC := L_local_Test_1b
def lE (F : AV) : Env := ek 7 [(4, .ptr 0 0), (5, .ptr 1 0), (89, F)]
def lH (F : AV) (a e : Int) (st : Nat) (pend : Option AX) : Heap := ⟨3, .node (.node .nil (some (.cells [.int .i64 e] true 0)) .nil) (some (.cells [.int .i64 a] true 0)) (.node .nil (some (.loop st pend (lE F) [90, 91] lA lB)) .nil)⟩
theorem lH_three (F : AV) (a e : Int) (st : Nat) (pend : Option AX) : lH F a e st pend = hk 3 [(0, .cells [.int .i64 a] true 0), (1, .cells [.int .i64 e] true 0), (2, .loop st pend (lE F) [90, 91] lA lB)] := hk_three _ _ _

theorem slacks_c (x : Pt) (k : Nat) (l : List Pt) (a : Int) (m : List Int) (n : Int) : PC fs ms f_local_look_slacks [lk x k l a m, .int .i64 n] (.func (.func f_local_look_slacks_1) [] [.fp [.int .i64 n] 0, .fp (lk x k l a m).cells 0]) := by
  refine ⟨by simp [clL, cl_lk]; rfl, by simp [AV.cl, clL, cells_cl (cl_lk x k l a m)], ?_⟩
  refine vd_start (af := C_local_look_slacks) false rfl (Nat.le_of_ble_eq_true rfl) ?_
  generalize hQ : (fun (u : AV) (h : Heap) => Frz (fun _ => True) h u (.func (.func f_local_look_slacks_1) [] [.fp [.int .i64 n] 0, .fp (lk x k l a m).cells 0])) = Q
  set_option smartUnfolding false in conv => whnf
  subst hQ
  exact .func' .nil (.cons (.ptr' trivial rfl (.clean (l := [.int .i64 n]) rfl)) (.cons (.ptr' trivial rfl (.clean (l := (lk x k l a m).cells) (cells_cl (cl_lk x k l a m)))) .nil))

set_option maxHeartbeats 4000000 in
theorem liter (x : Pt) (k : Nat) (l : List Pt) (a : Int) (m : List Int) (fin : Nat) (hfin : fin < 1048576) {F : AV} (hF : F.cl = true) (hs : Small l) (hx : x.ts.length ≤ 17592186044416) (hm : m.length < 2 ^ 62) :
    VD fs ms f_local_look_slacks_1 [.yield 2, .fp [.int .i64 (fin : Nat)] 0, .fp (lk x k l a m).cells 0] (lH F 0 0 0 none) (fun _ h2 => h2 = match firstBad (badB x l a m) 1 fin with | none => lH F 0 0 0 none | some t => lH F (t : Nat) 120 2 (some .ret)) := by
  refine vd_start (af := C_local_look_slacks_1) false rfl (Nat.le_of_ble_eq_true rfl) ?_
  generalize hQ : (fun (v : AV) (h2 : Heap) => h2 = match firstBad (badB x l a m) 1 fin with | none => lH F 0 0 0 none | some t => lH F (t : Nat) 120 2 (some .ret)) = Q
  show startF _ _ fun e => vpC fs ms 3 false false _ e ⟨3, .node (.node .nil (some (.cells [.int .i64 0] true 0)) .nil) (some (.cells [.int .i64 0] true 0)) (.node .nil (some (.loop 0 none (lE F) [90, 91] lA lB)) .nil)⟩ _
  have hcl : clL (lk x k l a m).cells = true := cells_cl (cl_lk x k l a m)
  have hcells : (lk x k l a m) = .agg (lk x k l a m).cells := rfl
  have hl6 : (lk x k l a m).cells.length = 6 := rfl
  have hask := fun n => asks_c x k l a m n hx hm
  have hslk := fun n => slack_c x k l a m n hs hx hm
  have hpf : ∀ (t : Nat), badB x l a m t = (decide (asksI x m (t : Nat) > 0) && decide (slackI x l a m (t : Nat) < 0)) := fun t => rfl
  set_option smartUnfolding false in conv => whnf
  have htail : ∀ {e1 : Env} {E : List (Nat × AV)}, RenAt id 3 e1 E → GC 3 id e1 (lH F 0 0 0 none) (ek 5 E) (lH F 0 0 0 none) := fun hr => gc_lit (lH_three _ _ _ _ _) id hr ⟨by omega, ⟨_, rfl, renB_cl rfl rfl⟩, by omega, ⟨_, rfl, renB_cl rfl rfl⟩, by omega, ⟨_, rfl, renB_loop (by simp; exact ⟨.ptr (by omega), .ptr (by omega), .cl hF⟩)⟩, trivial⟩ (by intro b c hb hc h; exact h) (fun b hb => rfl) (Nat.le_refl _)
  refine vc_gc (p := id) (htail (E := [(0, .yield 2), (1, .fp [.int .i64 (fin : Nat)] 0), (2, .fp (lk x k l a m).cells 0), (4, .int .i64 ((0 + 1 : Nat) : Int))]) (by repeat' (first | exact trivial | refine renAt_sl rfl (by omega) ?_ | refine renAt_ptr rfl (by omega) ?_ | refine renAt_yield rfl (by omega) ?_ | refine renAt_cl rfl (by first | rfl | simp [clL, AV.cl, cl_ints, hcl]) ?_ | refine renAt_cl (inc_slot (by omega)) rfl ?_))) ?_
  have round : ∀ (K : AX → Env → Heap → Prop) j, j < fin → badB x l a m (j + 1) = false → vpC fs ms 3 false false L_local_look_slacks_1_0 (ek 5 [(0, .yield 2), (1, .fp [.int .i64 (fin : Nat)] 0), (2, .fp (lk x k l a m).cells 0), (4, .int .i64 ((j + 1 : Nat) : Int))]) (lH F 0 0 0 none) (fun x1 e1 h1 => match x1 with | .normal => True ∧ ∃ p, GC 3 p e1 h1 (ek 5 [(0, .yield 2), (1, .fp [.int .i64 (fin : Nat)] 0), (2, .fp (lk x k l a m).cells 0), (4, .int .i64 ((j + 1 + 1 : Nat) : Int))]) (lH F 0 0 0 none) | x1 => K x1 e1 h1) := by
    intro K j hj hb
    rw [hpf] at hb
    have h1 := hask ((j + 1 : Nat) : Int)
    have h2 := hslk ((j + 1 : Nat) : Int)
    generalize asksI x m ((j + 1 : Nat) : Int) = A at *
    generalize slackI x l a m ((j + 1 : Nat) : Int) = S at *
    show vpC fs ms 3 false false _ _ ⟨3, .node (.node .nil (some (.cells [.int .i64 0] true 0)) .nil) (some (.cells [.int .i64 0] true 0)) (.node .nil (some (.loop 0 none (lE F) [90, 91] lA lB)) .nil)⟩ _
    set_option smartUnfolding false in conv => whnf
    refine brt (by simp; omega) (fun hc => ?_)
    (try rw [hc])
    set_option smartUnfolding false in conv => whnf
    refine vd_pure h1 ?_
    set_option smartUnfolding false in conv => whnf
    by_cases ha : A > 0
    · have hn : ¬ S < 0 := by
        rw [decide_eq_true ha, Bool.true_and] at hb
        exact of_decide_eq_false hb
      refine brt (decide_eq_true ha) (fun hc => ?_)
      (try rw [hc])
      set_option smartUnfolding false in conv => whnf
      refine vd_pure h2 ?_
      set_option smartUnfolding false in conv => whnf
      refine vd_yield rfl rfl ?_
      refine vpC_sound (z := false) ?_
      set_option smartUnfolding false in conv => whnf
      refine ⟨rfl, none, rfl, ?_⟩
      refine vpC_sound (z := false) ?_
      set_option smartUnfolding false in conv => whnf
      refine brf (decide_eq_false hn) (fun hc => ?_)
      (try rw [hc])
      set_option smartUnfolding false in conv => whnf
      refine ⟨by simp, ⟨1, none, rfl⟩, ?_⟩
      set_option smartUnfolding false in conv => whnf
      exact ⟨trivial, id, htail (by repeat' (first | exact trivial | refine renAt_sl rfl (by omega) ?_ | refine renAt_ptr rfl (by omega) ?_ | refine renAt_yield rfl (by omega) ?_ | refine renAt_cl rfl (by first | rfl | simp [clL, AV.cl, cl_ints, hcl]) ?_ | refine renAt_cl (inc_slot (by omega)) rfl ?_))⟩
    · refine brf (decide_eq_false ha) (fun hc => ?_)
      (try rw [hc])
      set_option smartUnfolding false in conv => whnf
      exact ⟨trivial, id, htail (by repeat' (first | exact trivial | refine renAt_sl rfl (by omega) ?_ | refine renAt_ptr rfl (by omega) ?_ | refine renAt_yield rfl (by omega) ?_ | refine renAt_cl rfl (by first | rfl | simp [clL, AV.cl, cl_ints, hcl]) ?_ | refine renAt_cl (inc_slot (by omega)) rfl ?_))⟩
  cases hfb : firstBad (badB x l a m) 1 fin with
  | none =>
    rw [hfb] at hQ
    have hno := firstBad_none hfb
    refine for_rowH 3 5 fin (fun _ => True) (fun j => [(0, .yield 2), (1, .fp [.int .i64 (fin : Nat)] 0), (2, .fp (lk x k l a m).cells 0), (4, .int .i64 ((j + 1 : Nat) : Int))]) (fun _ => lH F 0 0 0 none) (fun j hj _ => round _ j hj (by have := hno j hj; rwa [Nat.add_comm] at this)) ?_ trivial
    intro _
    set_option smartUnfolding false in conv => whnf
    refine brf (by simp; omega) (fun hc => ?_)
    (try rw [hc])
    set_option smartUnfolding false in conv => whnf
    subst hQ
    rfl
  | some u =>
    rw [hfb] at hQ
    obtain ⟨u1, u2, u3, u4⟩ := firstBad_some hfb
    refine for_rowH 3 5 (u - 1) (fun _ => True) (fun j => [(0, .yield 2), (1, .fp [.int .i64 (fin : Nat)] 0), (2, .fp (lk x k l a m).cells 0), (4, .int .i64 ((j + 1 : Nat) : Int))]) (fun _ => lH F 0 0 0 none) (fun j hj _ => round _ j (by omega) (u4 (j + 1) (by omega) (by omega))) ?_ trivial
    intro _
    rw [show u - 1 + 1 = u by omega]
    rw [hpf, Bool.and_eq_true] at u3
    have h1 := hask (u : Nat)
    have h2 := hslk (u : Nat)
    generalize asksI x m (u : Nat) = A at *
    generalize slackI x l a m (u : Nat) = S at *
    show vpC fs ms 3 false false _ _ ⟨3, .node (.node .nil (some (.cells [.int .i64 0] true 0)) .nil) (some (.cells [.int .i64 0] true 0)) (.node .nil (some (.loop 0 none (lE F) [90, 91] lA lB)) .nil)⟩ _
    set_option smartUnfolding false in conv => whnf
    refine brt (by simp; omega) (fun hc => ?_)
    (try rw [hc])
    set_option smartUnfolding false in conv => whnf
    refine vd_pure h1 ?_
    set_option smartUnfolding false in conv => whnf
    refine brt (u3.1) (fun hc => ?_)
    (try rw [hc])
    set_option smartUnfolding false in conv => whnf
    refine vd_pure h2 ?_
    set_option smartUnfolding false in conv => whnf
    refine vd_yield rfl rfl ?_
    refine vpC_sound (z := false) ?_
    set_option smartUnfolding false in conv => whnf
    refine ⟨rfl, none, rfl, ?_⟩
    refine vpC_sound (z := false) ?_
    set_option smartUnfolding false in conv => whnf
    refine brt (u3.2) (fun hc => ?_)
    (try rw [hc])
    set_option smartUnfolding false in conv => whnf
    refine ⟨by simp, ⟨1, none, rfl⟩, ?_⟩
    set_option smartUnfolding false in conv => whnf
    subst hQ
    rfl
end Ir
end Go.Proofs.Ytepdklcpagielaa
