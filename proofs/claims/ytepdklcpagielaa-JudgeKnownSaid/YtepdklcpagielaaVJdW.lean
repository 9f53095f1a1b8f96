/-
  Judge: the chapter's examples, by Find's contract.
-/
import Derived.Test.YtepdklcpagielaaVJu
import Derived.KernelRfl
set_option maxRecDepth 100000
set_option linter.unusedSimpArgs false
set_option linter.unusedVariables false
namespace Go.Proofs.Ytepdklcpagielaa
open Go Ads
namespace Ir
def chTk : Tk := ⟨8, 8, 2, 0, 0, 0, 0, 0⟩
def chL : List Pt := [⟨4, 2, 2, [chTk]⟩]
theorem chFits : Fits chL [] := ⟨by decide, by decide, by decide⟩
theorem chapter_c : PC fs ms f_escapementlaw26_chapter [] (cfg 2 chL 3 []) := by
 refine ⟨rfl, rfl, ?_⟩
 refine vd_start (af := C_escapementlaw26_chapter) false rfl (Nat.le_of_ble_eq_true rfl) ?_
 set_option smartUnfolding false in conv => whnf
 have key : ∀ {g : Heap} {b : Nat}, g.get b = some (.cells (tk chTk).cells true 0) → Frz (fun _ => True) g (.sl b 0 1 1 false) (.fz 2 (tks [chTk])) := fun hg => .row (s := 8) trivial hg rfl rfl rfl (Nat.le_refl _) (Nat.le_refl _) (fun _ => rfl) (fun _ => rfl) rfl
 refine .agg' (.cons (.sl (s := 3) trivial rfl rfl rfl (Nat.le_refl _) (Nat.le_refl _) (Nat.le_refl _) (fun _ => rfl) (fun _ => rfl) ?_) (.cons .nils .nil))
 intro i x j c y hx hc hy
 match i, hx with
 | 0, hx =>
  cases hx
  match j, hc with
  | 0, hc => cases hc; cases hy; exact .clean rfl
  | 1, hc => cases hc; cases hy; exact .clean rfl
  | 2, hc => cases hc; cases hy; exact key rfl
theorem finds_c (k : Nat) (l : List Nt) (un r w : Int) (hl : l.length ≤ 17592186044416) (hr : findT chL [] l un = (r, w, 0)) : PC fs ms f_escapementlaw26_finds [.int .i64 un, .int .i64 r, .int .i64 w, .fz k (nts l)] (.bool true) := by
 refine pc_of (by simp [clL, AV.cl, cl_nts]) rfl ?_
 refine vd_begin (af := C_escapementlaw26_finds) rfl (Nat.le_of_ble_eq_true rfl) ?_
 set_option smartUnfolding false in conv => whnf
 refine vc_seq true ?_
 set_option smartUnfolding false in conv => whnf
 refine vc_seq true ?_
 set_option smartUnfolding false in conv => whnf
 refine vd_pure chapter_c ?_
 set_option smartUnfolding false in conv => whnf
 refine vd_pure (jfind_c (k := 2) (ko := 3) (kl := k) (L := chL) (O := []) chFits (by decide) hl un) ?_
 set_option smartUnfolding false in conv => whnf
 rw [hr]
 refine vc_slots 4 [(1, .int .i64 r), (2, .int .i64 w), (9, .int .i64 r), (10, .int .i64 w), (11, .int .i64 0)] ⟨rfl, rfl, rfl, rfl, rfl, trivial⟩ ?_
 refine vpC_sound (z := true) ?_
 set_option smartUnfolding false in conv => whnf
 refine brt (by simp) (fun hc => ?_)
 (try rw [hc])
 set_option smartUnfolding false in conv => whnf
 refine brt (by simp) (fun hc => ?_)
 (try rw [hc])
 set_option smartUnfolding false in conv => whnf
 rfl
theorem finds_v {h : Heap} {b n : Nat} {l : List Nt} {un r w : Int} (hg : h.get b = some (.cells (flatCells (nts l)) true 0)) (hn : n = l.length) (hl : l.length ≤ 17592186044416) (hr : findT chL [] l un = (r, w, 0)) {Q : AV → Heap → Prop} (hQ : Q (.bool true) h) :
  VD fs ms f_escapementlaw26_finds [.int .i64 un, .int .i64 r, .int .i64 w, .sl b 0 n n false] h Q :=
 vd_view (finds_c 0 l un r w hl hr) rfl (.cons (.clean rfl) (.cons (.clean rfl) (.cons (.clean rfl) (.cons (.row (s := 7) trivial hg rfl (size_nts l) (by rw [len_nts]; exact hn) (Nat.le_refl _) (Nat.zero_le _) (fun h => by omega) (fun h => by omega) (cl_nts l)) .nil)))) hQ
def wJ : Nt := ⟨1, 6, 0, 0, 0, 0, []⟩
def wA' : Nt := ⟨1, 1, 0, -1, 0, 0, []⟩
def wB' : Nt := ⟨2, 1, 0, -1, 0, 0, []⟩
theorem works26_c : PC fs ms f_escapementlaw26_works [] (.bool true) := by
 refine pc_of rfl rfl ?_
 refine vd_start (af := C_escapementlaw26_works) false rfl (Nat.le_of_ble_eq_true rfl) ?_
 set_option smartUnfolding false in conv => whnf
 refine vd_frz [] (args' := [.int .i64 5, .int .i64 0, .int .i64 0, .fz 3 (nts [])]) (.cons (.clean rfl) (.cons (.clean rfl) (.cons (.clean rfl) (.cons .nils .nil)))) ?_
 refine vd_pure (finds_c 3 [] 5 0 0 (by decide) (by kernel_rfl)) ?_
 set_option smartUnfolding false in conv => whnf
 refine finds_v (l := [wJ, wA', wB']) rfl rfl (by decide) (by kernel_rfl) ?_
 set_option smartUnfolding false in conv => whnf
 refine finds_v (l := [wJ, wA', wB']) rfl rfl (by decide) (by kernel_rfl) ?_
 set_option smartUnfolding false in conv => whnf
 refine finds_v (l := [wJ, wB']) rfl rfl (by decide) (by kernel_rfl) ?_
 set_option smartUnfolding false in conv => whnf
 refine finds_v (l := [wJ]) rfl rfl (by decide) (by kernel_rfl) ?_
 set_option smartUnfolding false in conv => whnf
 refine finds_v (l := [⟨0, 1, 0, -1, 0, 0, []⟩]) rfl rfl (by decide) (by kernel_rfl) ?_
 set_option smartUnfolding false in conv => whnf
 refine finds_v (l := [wJ, ⟨1, 1, 0, 0, 0, 0, []⟩]) rfl rfl (by decide) (by kernel_rfl) ?_
 set_option smartUnfolding false in conv => whnf
end Ir
end Go.Proofs.Ytepdklcpagielaa
