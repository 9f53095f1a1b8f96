/-
  The statement RoomPlays holds: the Go function RoomPlays returns true, whatever its arguments are.
-/
import Derived.Test.YtnlcabhfkpafmaaGreatRows
import Derived.Test.YtnlcabhfkpafmaaGreatVRuT
import Derived.Test.YtnlcabhfkpafmaaGreatVsLaw
set_option linter.unusedVariables false
set_option maxRecDepth 100000
namespace Go.Proofs.YtnlcabhfkpafmaaGreat
namespace RoomPlaysProof
open Go Ads Go.ChangeShapes Go.WideShapes Go.ChangeAt Go.RowKit
theorem own:ownKnob Tryz.prog.godebug=none:=by kernel_rfl
theorem sys:ou Tryz.prog Ir.fs Ir.ms where
  CO:=fun f af h=>by
    unfold Ir.fs at h;rw[Ir.tie] at h;exact zY Ir.all h
  RL:=fun t name f h=>by
    intro v w;unfold Ir.ms at h;repeat(split at h;· (rename_i hc;obtain⟨rfl,rfl⟩:=hc;cases h;kernel_rfl))
    simp at h
  mixed:=by kernel_rfl
theorem law(xs:List AV)(hl:xs.length=Tryz.f5.params.size)(ht:∀(i:Nat) t x,Tryz.f5.params.toList[i]?=some t→xs[i]?=some x→dY Tryz.prog t x):PC Ir.fs Ir.ms 5 xs (.bool true):=by
  match xs,hl with
  |[x0,x1],_=>
    obtain⟨d0,rfl,QI⟩:=Ir.So (ht 0 _ x0 rfl rfl);obtain⟨d1,rfl,Ck⟩:=Ir.Sl (ht 1 _ x1 rfl rfl);exact Ir.B1 d0.1 d1.1 d0.2 d1.2 QI.2.1 QI.2.2 Ck.1 Ck.2
theorem lifted(os:Os)(started:os.Started)(H:Type)(enc:TypeId×Value→H):
    ReturnsInHanded {} Tryz.checked os 5 .any (Rows.roomPlaysSpec.pre6 enc Tryz.prog Tryz.f5 Rows.roomPlaysRow.domain false) (Rows.roomPlaysSpec.post enc Tryz.prog Tryz.f5 false true false false):=by
  refine xJ (C:=Tryz.checked) own started (by kernel_rfl) Tryz.func5
    (ChangeSpec.witness6 (enc:=enc) (C:=Tryz.checked) false ⟨#[],#[.slice none 0 0,.slice none 0 0],[]⟩ 8 (by kernel_rfl) (by kernel_rfl) (by kernel_rfl) (by kernel_rfl)) ?_
  intro W base args ds gs before hval hW sv;exact F9 sys Ir.codes (by kernel_rfl) (tb:=4) rfl rfl Tryz.underlying4 (by kernel_rfl)
    (fun ds hds=>by match ds,hds with|[d0,d1],_=>exact⟨rfl,rfl,rfl⟩) law hval hW sv
theorem named:Tryz.pinned.checked.prog.funcNamed Rows.roomPlaysRow.func=some 5:=by kernel_rfl
theorem facts:joinedFacts Tryz.pinned.checked.prog 5 Tryz.f5 Rows.roomPlaysSpec Rows.roomPlaysRow=true:=by kernel_rfl
theorem inst:Tryz.f5.isInstance Tryz.pinned.checked.prog Rows.roomPlaysRow.origin Rows.roomPlaysRow.targs:=of_decide_eq_true (by kernel_rfl)
theorem iu:Rows.roomPlaysRow.holds Tryz.pinned (OpenSpec.ofChange Rows.roomPlaysSpec):=
  OpenClaim.holds_of_wide 5 Tryz.f5 rfl rfl rfl rfl rfl rfl rfl ⟨rfl,rfl,rfl,rfl,rfl⟩ rfl rfl rfl rfl rfl named Tryz.func5 facts
    inst (by unfold Func.isWrapper;first|(rw[if_pos (by decide+kernel)];kernel_rfl)|(rw[if_neg (by decide+kernel)];exact⟨rfl,rfl⟩))
    (fun os started H enc _=>lifted os started H enc)
theorem proved:Rows.RoomPlaysSaid:=iu
#print axioms proved
end RoomPlaysProof
end Go.Proofs.YtnlcabhfkpafmaaGreat
