/-
  The statement RoomWaits holds: the Go function RoomWaits returns true, whatever its arguments are.
-/
import Derived.Test.YtnlcabhfkpafmaaGreatRows
import Derived.Test.YtnlcabhfkpafmaaGreatVRqU
import Derived.Test.YtnlcabhfkpafmaaGreatVsLaw
set_option linter.unusedVariables false
set_option maxRecDepth 100000
namespace Go.Proofs.YtnlcabhfkpafmaaGreat
namespace RoomWaitsProof
open Go Ads Go.ChangeShapes Go.WideShapes Go.ChangeAt Go.RowKit
theorem own:ownKnob Tryz.prog.godebug=none:=by kernel_rfl
theorem sys:lS Tryz.prog Ir.fs Ir.ms where
  z3:=fun f af h=>by
    unfold Ir.fs at h;rw[Ir.tie] at h;exact sW Ir.all h
  Kn:=fun t name f h=>by
    intro v w;unfold Ir.ms at h;repeat(split at h;· (rename_i hc;obtain⟨rfl,rfl⟩:=hc;cases h;kernel_rfl))
    simp at h
  mixed:=by kernel_rfl
theorem law(xs:List AV)(hl:xs.length=Tryz.f4.params.size)(ht:∀(i:Nat) t x,Tryz.f4.params.toList[i]?=some t→xs[i]?=some x→dM Tryz.prog t x):PC Ir.fs Ir.ms 4 xs (.bool true):=by
  match xs,hl with
  |[x0,x1],_=>
    obtain⟨d0,rfl,Pt⟩:=Ir.K8 (ht 0 _ x0 rfl rfl);obtain⟨k1,l1,rfl,xQ,hz1,HG,hw1⟩:=FE (ht 1 _ x1 rfl rfl) (e:=3) (by kernel_rfl) Tryz.underlying3;rw[show Tryz.prog.bytesOf 3=8 by kernel_rfl] at HG;simp only[reachBytes] at HG;exact Ir.Ci d0.1 k1 d0.2 l1 (by have:=Pt.2.2;omega) (by omega)
theorem lifted(os:Os)(started:os.Started)(H:Type)(enc:TypeId×Value→H):
    ReturnsInHanded {} Tryz.checked os 4 .any (Rows.roomWaitsSpec.pre6 enc Tryz.prog Tryz.f4 Rows.roomWaitsRow.domain false) (Rows.roomWaitsSpec.post enc Tryz.prog Tryz.f4 false true false false):=by
  refine m7 (C:=Tryz.checked) own started (by kernel_rfl) Tryz.func4
    (ChangeSpec.witness6 (enc:=enc) (C:=Tryz.checked) false ⟨#[],#[.slice none 0 0,.slice none 0 0],[]⟩ 8 (by kernel_rfl) (by kernel_rfl) (by kernel_rfl) (by kernel_rfl)) ?_
  intro W base args ds gs before hval hW qR;exact ud sys Ir.codes (by kernel_rfl) (tb:=4) rfl rfl Tryz.underlying4 (by kernel_rfl)
    (fun ds hds=>by match ds,hds with|[d0,d1],_=>exact⟨rfl,rfl,rfl⟩) law hval hW qR
theorem fT:Rows.roomWaitsRow.holds Tryz.pinned (OpenSpec.ofChange Rows.roomWaitsSpec):=
  OpenClaim.holds_of_wide 4 Tryz.f4 rfl rfl rfl rfl rfl rfl rfl ⟨rfl,rfl,rfl,rfl,rfl⟩ rfl rfl rfl rfl rfl (by kernel_rfl) Tryz.func4 (by kernel_rfl)
    (of_decide_eq_true (by kernel_rfl)) (by unfold Func.isWrapper;first|(rw[if_pos (by decide+kernel)];kernel_rfl)|(rw[if_neg (by decide+kernel)];exact⟨rfl,rfl⟩))
    (fun os started H enc _=>lifted os started H enc)
theorem proved:Rows.RoomWaitsSaid:=fT
#print axioms proved
end RoomWaitsProof
end Go.Proofs.YtnlcabhfkpafmaaGreat
