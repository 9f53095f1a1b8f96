/-
  Tape: rows of bytes as arguments.
-/
import Derived.Test.YtmnolnoeibhjgaaGreatZD
import Derived.Test.YtmnolnoeibhjgaaGreatZA
set_option maxRecDepth 100000
set_option linter.unusedSimpArgs false
set_option linter.unusedVariables false
namespace Go.Proofs.YtmnolnoeibhjgaaGreat
open Go Ads
namespace Ir
theorem PB{x:AV}(h:dc Tryz.prog 28 x):∃d:Nat×List Int,x=.fz d.1 (eD d.2)∧okB d.2:=by
 obtain⟨k,l,rfl,h1,h2,h3,h4⟩:=sQ h Tryz.underlying28;obtain⟨m,rfl,h5⟩:=vP (enc:=AV.int .u8) (q:=fun n=>(Lit.int .u8 n).wf=true) l (fun y hy=>oa (h4 y hy) Tryz.underlying5);refine⟨(k,m),rfl,fun n hn=>?_⟩;have:=h5 n hn;simp only[Lit.wf,Bool.and_eq_true,decide_eq_true_eq] at this;have e1:IntKind.u8.min=0:=rfl;have e2:IntKind.u8.max=255:=rfl;omega
end Ir
end Go.Proofs.YtmnolnoeibhjgaaGreat
