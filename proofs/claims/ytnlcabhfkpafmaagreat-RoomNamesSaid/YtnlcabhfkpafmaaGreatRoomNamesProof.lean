/-
  The statement RoomNames holds: the Go function RoomNames returns true, whatever its arguments are.
-/
import Derived.Test.YtnlcabhfkpafmaaGreatRows
import Derived.Test.YtnlcabhfkpafmaaGreatVRomK
import Derived.Test.YtnlcabhfkpafmaaGreatVsLaw
set_option linter.unusedVariables false
set_option maxRecDepth 100000
namespace Go.Proofs.YtnlcabhfkpafmaaGreat
namespace RoomNamesProof
open Go Ads Go.ChangeShapes Go.WideShapes Go.ChangeAt Go.RowKit
theorem own:ownKnob Tryz.prog.godebug=none:=by kernel_rfl
theorem sys:lS Tryz.prog Ir.fs Ir.ms where
  z3:=fun f af h=>by
    unfold Ir.fs at h;rw[Ir.tie] at h;exact sW Ir.all h
  Kn:=fun t name f h=>by simp[Ir.ms] at h
  mixed:=by kernel_rfl
theorem law(xs:List AV)(hl:xs.length=Tryz.f6.params.size)(ht:∀(i:Nat) t x,Tryz.f6.params.toList[i]?=some t→xs[i]?=some x→dM Tryz.prog t x):PC Ir.fs Ir.ms 6 xs (.bool true):=by
  match xs,hl with
  |[],_=>
    exact Ir.Ch
theorem lifted(os:Os)(started:os.Started)(H:Type)(enc:TypeId×Value→H):
    ReturnsInHanded {} Tryz.checked os 6 .any (Rows.roomNamesSpec.pre6 enc Tryz.prog Tryz.f6 Rows.roomNamesRow.domain false) (Rows.roomNamesSpec.post enc Tryz.prog Tryz.f6 false true false false):=by
  refine m7 (C:=Tryz.checked) own started (by kernel_rfl) Tryz.func6
    (ChangeSpec.witness6 (enc:=enc) (C:=Tryz.checked) false ⟨#[],#[],[]⟩ 8 (by kernel_rfl) (by kernel_rfl) (by kernel_rfl) (by kernel_rfl)) ?_
  intro W base args ds gs before hval hW qR;exact ud sys Ir.codes (by kernel_rfl) (tb:=4) rfl rfl Tryz.underlying4 (by kernel_rfl)
    (fun ds hds=>by match ds,hds with|[],_=>exact⟨rfl,rfl,rfl⟩) law hval hW qR
theorem fT:Rows.roomNamesRow.holds Tryz.pinned (OpenSpec.ofChange Rows.roomNamesSpec):=
  OpenClaim.holds_of_wide 6 Tryz.f6 rfl rfl rfl rfl rfl rfl rfl ⟨rfl,rfl,rfl,rfl,rfl⟩ rfl rfl rfl rfl rfl (by kernel_rfl) Tryz.func6 (by kernel_rfl)
    (of_decide_eq_true (by kernel_rfl)) (by unfold Func.isWrapper;first|(rw[if_pos (by decide+kernel)];kernel_rfl)|(rw[if_neg (by decide+kernel)];exact⟨rfl,rfl⟩))
    (fun os started H enc _=>lifted os started H enc)
theorem proved:Rows.RoomNamesSaid:=fT
#print axioms proved
end RoomNamesProof
end Go.Proofs.YtnlcabhfkpafmaaGreat
