/-
  LocalNames: the closed statement.
-/
import Derived.Test.YtlndlbngfgaoeaaZA
import Derived.Test.YtlndlbngfgaoeaaVLocW
import Derived.KernelRfl
set_option maxRecDepth 100000
set_option linter.unusedSimpArgs false
set_option linter.unusedVariables false
namespace Go.Proofs.Ytlndlbngfgaoeaa
open Go Ads
namespace Ir

theorem frz_pt {B : Nat → Prop} {g : Heap} {b es : Nat} {p bd : Int} {v : AV} {kk : Nat} {ts : List Tk} {wr : Bool} (hb : B b) (hg : g.get b = some (.cells [.int .i64 p, .int .i64 bd, v] wr es)) (hv : Frz B g v (.fz kk (tks ts))) : Frz B g (.sl b 0 1 1 false) (.fz 2 (pts [⟨p, bd, kk, ts⟩])) := by
 refine .sl (s := 3) hb hg rfl rfl (by simp [pts]) (Nat.le_refl _) (by omega) (fun _ => rfl) (fun _ => rfl) ?_
 intro i x j c y hx hc hy
 match i, hx with
 | 0, hx =>
  cases hx
  match j, hc, hy with
  | 0, hc, hy => cases hc; cases hy; exact .clean rfl
  | 1, hc, hy => cases hc; cases hy; exact .clean rfl
  | 2, hc, hy => cases hc; cases hy; exact hv
theorem frz_tks {B : Nat → Prop} {g : Heap} {b n es : Nat} {ts : List Tk} {vs : List AV} {wr : Bool} (hb : B b) (hg : g.get b = some (.cells vs wr es)) (hv : vs = flatCells (tks ts)) (hn : n = ts.length) : Frz B g (.sl b 0 n n false) (.fz 2 (tks ts)) :=
 .row (s := 8) hb hg hv (allSize_map (enc := tk) (fun _ => rfl) ts) (by rw [len_tks]; exact hn) (Nat.le_refl _) (by omega) (fun _ => rfl) (fun _ => rfl) (cl_tks ts)

theorem one_c10 : PC fs ms f_escapementlaw10_one [.nils] (.fz 2 (pts [⟨5, 2, 3, []⟩])) := by
 refine ⟨rfl, rfl, ?_⟩
 refine vd_start (af := C_escapementlaw10_one) false rfl (Nat.le_of_ble_eq_true rfl) ?_
 generalize hQ : (fun (u : AV) (g : Heap) => Frz (fun _ => True) g u (.fz 2 (pts [⟨5, 2, 3, []⟩]))) = Q
 conv => whnf
 subst hQ
 exact frz_pt trivial rfl .nils

theorem sm (l : List Pt) (h : (decide (l.length ≤ 4) && l.all fun x => decide (x.ts.length ≤ 4)) = true) : Small l := by
 simp only [Bool.and_eq_true, decide_eq_true_eq, List.all_eq_true] at h
 exact ⟨by omega, fun x hx => by have := h.2 x hx; omega⟩
theorem t_nil : PC fs ms f_local_Test [.fz 3 (pts []), .int .i64 0] (pairI (0, 9)) := by
 have := ltest_c 3 [] 0 (sm _ rfl)
 rwa [show testS [] 0 = (0, 9) by kernel_rfl] at this
theorem t_zero : PC fs ms f_local_Test [.fz 2 (pts [⟨0, 0, 3, []⟩]), .int .i64 0] (pairI (0, 2)) := by
 have := ltest_c 2 [⟨0, 0, 3, []⟩] 0 (sm _ rfl)
 rwa [show testS [⟨0, 0, 3, []⟩] 0 = (0, 2) by kernel_rfl] at this
theorem t_one : PC fs ms f_local_Test [.fz 2 (pts [⟨5, 2, 3, []⟩]), .int .i64 0] (pairI (0, 0)) := by
 have := ltest_c 2 [⟨5, 2, 3, []⟩] 0 (sm _ rfl)
 rwa [show testS [⟨5, 2, 3, []⟩] 0 = (0, 0) by kernel_rfl] at this
theorem s_neg : PC fs ms f_local_Slack [.fz 2 (pts [⟨5, 2, 3, []⟩]), .int .i64 0, .int .i64 (-1)] (pairI (0, 2)) := by
 have := lslack_c 2 [⟨5, 2, 3, []⟩] 0 (-1) (sm _ rfl)
 rwa [show slkS [⟨5, 2, 3, []⟩] 0 (-1) = (0, 2) by kernel_rfl] at this
theorem s_far : PC fs ms f_local_Slack [.fz 2 (pts [⟨5, 2, 3, []⟩]), .int .i64 0, .int .i64 1048576] (pairI (419428, 0)) := by
 have := lslack_c 2 [⟨5, 2, 3, []⟩] 0 1048576 (sm _ rfl)
 rwa [show slkS [⟨5, 2, 3, []⟩] 0 1048576 = (419428, 0) by kernel_rfl] at this
theorem s_out : PC fs ms f_local_Slack [.fz 2 (pts [⟨5, 2, 3, []⟩]), .int .i64 1, .int .i64 5] (pairI (0, 9)) := by
 have := lslack_c 2 [⟨5, 2, 3, []⟩] 1 5 (sm _ rfl)
 rwa [show slkS [⟨5, 2, 3, []⟩] 1 5 = (0, 9) by kernel_rfl] at this
def tFull : Tk := ⟨64, 64, 64, 0, 0, 0, 0, 0⟩
def tOwn : Tk := ⟨8, 8, 4, 0, 0, 1, 2, 2⟩
theorem t_full : PC fs ms f_local_Test [.fz 2 (pts [⟨64, 64, 2, [tFull]⟩]), .int .i64 0] (pairI (0, 0)) := by
 have := ltest_c 2 [⟨64, 64, 2, [tFull]⟩] 0 (sm _ rfl)
 rwa [show testS [⟨64, 64, 2, [tFull]⟩] 0 = (0, 0) by kernel_rfl] at this
theorem t_lim : PC fs ms f_local_Test [.fz 2 (pts [⟨64, 64, 0, [tFull, ⟨63, 63, 1, 0, 0, 0, 0, 0⟩, ⟨61, 9, 1, 0, 0, 0, 0, 0⟩]⟩]), .int .i64 0] (pairI (0, 5)) := by
 have := ltest_c 2 [⟨64, 64, 0, [tFull, ⟨63, 63, 1, 0, 0, 0, 0, 0⟩, ⟨61, 9, 1, 0, 0, 0, 0, 0⟩]⟩] 0 (sm _ rfl)
 rwa [show testS [⟨64, 64, 0, [tFull, ⟨63, 63, 1, 0, 0, 0, 0, 0⟩, ⟨61, 9, 1, 0, 0, 0, 0, 0⟩]⟩] 0 = (0, 5) by kernel_rfl] at this
theorem t_own : PC fs ms f_local_Test [.fz 2 (pts [⟨4, 4, 2, [tOwn, ⟨8, 4, 2, 0, 0, 0, 0, 0⟩]⟩]), .int .i64 0] (pairI (4, 120)) := by
 have := ltest_c 2 [⟨4, 4, 2, [tOwn, ⟨8, 4, 2, 0, 0, 0, 0, 0⟩]⟩] 0 (sm _ rfl)
 rwa [show testS [⟨4, 4, 2, [tOwn, ⟨8, 4, 2, 0, 0, 0, 0, 0⟩]⟩] 0 = (4, 120) by kernel_rfl] at this
theorem t_own2 : PC fs ms f_local_Test [.fz 2 (pts [⟨4, 4, 2, [tOwn, ⟨8, 4, 1, 0, 0, 0, 0, 0⟩]⟩]), .int .i64 0] (pairI (0, 0)) := by
 have := ltest_c 2 [⟨4, 4, 2, [tOwn, ⟨8, 4, 1, 0, 0, 0, 0, 0⟩]⟩] 0 (sm _ rfl)
 rwa [show testS [⟨4, 4, 2, [tOwn, ⟨8, 4, 1, 0, 0, 0, 0, 0⟩]⟩] 0 = (0, 0) by kernel_rfl] at this

theorem localNames_c : PC fs ms f_escapementlaw10_LocalNames [] (.bool true) := by
 refine pc_of rfl rfl ?_
 refine vd_start (af := C_escapementlaw10_LocalNames) false rfl (Nat.le_of_ble_eq_true rfl) ?_
 generalize hQ : (fun (v : AV) (_ : Heap) => v = .bool true) = Q
 conv => whnf
 refine vd_view t_nil rfl (.cons .nils (.cons (.clean rfl) .nil)) ?_
 conv => whnf
 refine vd_view t_zero rfl (.cons (frz_pt trivial rfl .nils) (.cons (.clean rfl) .nil)) ?_
 conv => whnf
 refine vd_pure (one_c10) ?_
 conv => whnf
 refine vd_pure (t_one) ?_
 conv => whnf
 refine vd_pure (one_c10) ?_
 conv => whnf
 refine vd_pure (s_neg) ?_
 conv => whnf
 refine vd_pure (one_c10) ?_
 conv => whnf
 refine vd_pure (s_far) ?_
 conv => whnf
 refine vd_pure (one_c10) ?_
 conv => whnf
 refine vd_pure (s_out) ?_
 conv => whnf
 refine vd_view t_full rfl (.cons (frz_pt trivial rfl (frz_tks trivial rfl rfl rfl)) (.cons (.clean rfl) .nil)) ?_
 conv => whnf
 refine ⟨_, rfl, ?_⟩
 conv => whnf
 refine ⟨_, _, rfl, ?_⟩
 conv => whnf
 refine ⟨_, rfl, ?_⟩
 conv => whnf
 refine vd_view t_lim rfl (.cons (frz_pt trivial rfl (frz_open (s := 8) trivial rfl rfl rfl rfl rfl)) (.cons (.clean rfl) .nil)) ?_
 conv => whnf
 refine vd_view t_own rfl (.cons (frz_pt trivial rfl (frz_tks trivial rfl rfl rfl)) (.cons (.clean rfl) .nil)) ?_
 conv => whnf
 refine ⟨_, rfl, ?_⟩
 conv => whnf
 refine ⟨_, rfl, ?_⟩
 conv => whnf
 refine vd_view t_own2 rfl (.cons (frz_pt trivial rfl (frz_tks trivial rfl rfl rfl)) (.cons (.clean rfl) .nil)) ?_
 conv => whnf
 refine vd_pure (works10_c) ?_
 conv => whnf
 subst hQ
 rfl
end Ir
end Go.Proofs.Ytlndlbngfgaoeaa
