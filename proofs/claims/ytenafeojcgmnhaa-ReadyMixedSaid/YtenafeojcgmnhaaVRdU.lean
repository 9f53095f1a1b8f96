/-
  Ready: values of the types of four numbers, four truths.
-/
import Derived.Test.YtenafeojcgmnhaaVRdS
import Derived.Test.YtenafeojcgmnhaaZA
import Derived.Test.YtenafeojcgmnhaaChecked
import Derived.KernelRfl
set_option maxRecDepth 100000
set_option linter.unusedSimpArgs false
set_option linter.unusedVariables false
namespace Go.Proofs.Ytenafeojcgmnhaa
open Go Ads
namespace Ir
theorem tg{α:Type}{enc:α→AV}(h1:∀a,(enc a).cells=[enc a]):∀l:List α,aj (l.map enc)=l.map enc
 |[]=>rfl
 |x::l=>by
  have ih:=tg h1 l;simp only[aj,List.map_cons,List.flatMap_cons] at ih⊢;rw[ih,h1];rfl
theorem IB{x:AV}(h:cE Try.prog 63 x):∃d:List Int,x=.agg (ints d)∧d.length=4:=by
 obtain⟨ys,rfl,h1,h2⟩:=BG h Try.underlying63;obtain⟨m,rfl,-⟩:=tD (enc:=AV.int .i64) (q:=fun _=>True) ys (fun y hy=>by obtain⟨a,ha,-⟩:=ku (h2 y hy) Try.underlying3;exact⟨a,ha,trivial⟩);exact⟨m,by rw[tg (fun _=>rfl)];rfl,by simpa using h1⟩
theorem Fo{x:AV}(h:cE Try.prog 65 x):∃d:List Bool,x=.agg (LC d)∧d.length=4:=by
 obtain⟨ys,rfl,h1,h2⟩:=BG h Try.underlying65;obtain⟨m,rfl,-⟩:=tD (enc:=AV.bool) (q:=fun _=>True) ys (fun y hy=>by obtain⟨a,ha⟩:=KH (h2 y hy) Try.underlying4;exact⟨a,ha,trivial⟩);exact⟨m,by rw[tg (fun _=>rfl)];rfl,by simpa using h1⟩
end Ir
end Go.Proofs.Ytenafeojcgmnhaa
