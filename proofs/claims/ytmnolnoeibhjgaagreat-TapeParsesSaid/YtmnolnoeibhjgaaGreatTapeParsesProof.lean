/-
  The statement TapeParses holds: the Go function TapeParses returns true, whatever its arguments are.
-/
import Derived.Test.YtmnolnoeibhjgaaGreatRows
import Derived.Test.YtmnolnoeibhjgaaGreatVTqH
import Derived.Test.YtmnolnoeibhjgaaGreatIrLink
import Derived.Test.YtmnolnoeibhjgaaGreatVKW
import Derived.Test.YtmnolnoeibhjgaaGreatVTqT
import Derived.Test.YtmnolnoeibhjgaaGreatVsLaw
set_option linter.unusedVariables false
set_option maxRecDepth 100000
namespace Go.Proofs.YtmnolnoeibhjgaaGreat
namespace TapeParsesProof
open Go Ads Go.ChangeShapes Go.WideShapes Go.ChangeAt Go.RowKit
theorem own:ownKnob Tryz.prog.godebug=none:=by kernel_rfl
theorem sys:kW Tryz.prog Ir.fs Ir.ms where
  zc:=fun f af h=>by
    unfold Ir.fs at h;rw[Ir.tie] at h;exact sC Ir.all h
  HI:=fun t name f h=>by
    intro v w;unfold Ir.ms at h;repeat(split at h;· (rename_i hc;obtain⟨rfl,rfl⟩:=hc;cases h;kernel_rfl))
    simp at h
  mixed:=by kernel_rfl
theorem law(xs:List AV)(hl:xs.length=Tryz.f4.params.size)(ht:∀(i:Nat) t x,Tryz.f4.params.toList[i]?=some t→xs[i]?=some x→dc Tryz.prog t x):PC Ir.fs Ir.ms 4 xs (.bool true):=by
  match xs,hl with
  |[x0],_=>
    obtain⟨d0,rfl,JP⟩:=Ir.PB (ht 0 _ x0 rfl rfl);exact Ir.z3 Ir.z9 d0.1 d0.2 JP
theorem lifted(os:Os)(started:os.Started)(H:Type)(enc:TypeId×Value→H):
    ReturnsInHanded {} Tryz.checked os 4 .any (Rows.tapeParsesSpec.pre6 enc Tryz.prog Tryz.f4 Rows.tapeParsesRow.domain false) (Rows.tapeParsesSpec.post enc Tryz.prog Tryz.f4 false true false false):=by
  refine mD (C:=Tryz.checked) own started (by kernel_rfl) Tryz.func4
    (ChangeSpec.witness6 (enc:=enc) (C:=Tryz.checked) false ⟨#[],#[.slice none 0 0],[]⟩ 8 (by kernel_rfl) (by kernel_rfl) (by kernel_rfl) (by kernel_rfl)) ?_
  intro W base args ds gs before hval hW qA;exact tD sys Ir.codes (by kernel_rfl) (tb:=4) rfl rfl Tryz.underlying4 (by kernel_rfl)
    (fun ds hds=>by match ds,hds with|[d0],_=>exact⟨rfl,rfl,rfl⟩) law hval hW qA
theorem named:Tryz.pinned.checked.prog.funcNamed Rows.tapeParsesRow.func=some 4:=by kernel_rfl
theorem facts:joinedFacts Tryz.pinned.checked.prog 4 Tryz.f4 Rows.tapeParsesSpec Rows.tapeParsesRow=true:=by kernel_rfl
theorem inst:Tryz.f4.isInstance Tryz.pinned.checked.prog Rows.tapeParsesRow.origin Rows.tapeParsesRow.targs:=of_decide_eq_true (by kernel_rfl)
theorem fu:Rows.tapeParsesRow.holds Tryz.pinned (OpenSpec.ofChange Rows.tapeParsesSpec):=
  OpenClaim.holds_of_wide 4 Tryz.f4 rfl rfl rfl rfl rfl rfl rfl ⟨rfl,rfl,rfl,rfl,rfl⟩ rfl rfl rfl rfl rfl named Tryz.func4 facts
    inst (by unfold Func.isWrapper;first|(rw[if_pos (by decide+kernel)];kernel_rfl)|(rw[if_neg (by decide+kernel)];exact⟨rfl,rfl⟩))
    (fun os started H enc _=>lifted os started H enc)
theorem proved:Rows.TapeParsesSaid:=fu
#print axioms proved
end TapeParsesProof
end Go.Proofs.YtmnolnoeibhjgaaGreat
