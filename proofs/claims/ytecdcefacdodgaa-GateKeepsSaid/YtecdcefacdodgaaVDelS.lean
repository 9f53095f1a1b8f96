/-
  Delay: what one partition more does.
-/
import Derived.Test.YtecdcefacdodgaaVDel
set_option maxRecDepth 100000
set_option linter.unusedSimpArgs false
set_option linter.unusedVariables false
namespace Go.Proofs.Ytecdcefacdodgaa
open Go Ads
namespace Ir
theorem TV{x:Pt}{g:Int}:mz x g=true↔∃t,t∈x.ts∧t.c=g:=by
 simp[mz,List.any_eq_true]
def shares(x y:Pt):Bool:=x.ts.any fun t=>decide (t.c>0)&&mz y t.c
theorem Va{l:List Pt}{y:Pt}(h:aB l=0)(hy:gN y=true)(h3:l.length≤3):aB (l++[y])=0:=by
 unfold aB at h;split at h
 ·rename_i h1;rw[aB,if_pos];refine⟨by simp;omega,?_⟩;rw[List.all_append,h1.2];simp[hy]
 ·omega
theorem zf(l:List Pt)(y:Pt)(a g:Int):∀j,j≤l.length→dK (l++[y]) a g j=dK l a g j
 |0,_=>rfl
 |j+1,hj=>by
  have hlt:j<l.length:=by omega
  rw[lU (l:=l++[y]) (by simp;omega),lU hlt,zf l y a g j (by omega),List.getElem_append_left hlt]
theorem En{l:List Pt}{y:Pt}(h:aB (l++[y])=0)(a:Nat)(ha:a<l.length)(g:Int):dK (l++[y]) (a:Nat) g (l++[y]).length=dK l (a:Nat) g l.length+(if mz y g=true then 2*y.bV else 0):=by
 rw[List.length_append];show dK (l++[y]) (a:Nat) g (l.length+1)=_;rw[zh h _ _ l.length (by simp),zf l y _ _ _ (Nat.le_refl _)];simp only[List.getElem_concat_length];by_cases hu:mz y g=true
 ·rw[if_pos ⟨by omega,hu⟩,if_pos hu]
 ·rw[if_neg (fun x=>hu x.2),if_neg hu];omega
theorem zi{l:List Pt}{y:Pt}(h:aB (l++[y])=0)(a:Nat)(ha:a<l.length)(t:Tk):eN (l++[y]) (a:Nat) t=eN l (a:Nat) t+(if t.c≠0∧mz y t.c=true then 2*y.bV else 0):=by
 unfold eN;by_cases h0:t.c=0
 ·rw[if_pos h0,if_pos h0,if_neg (fun x=>x.1 h0)];rfl
 ·rw[if_neg h0,if_neg h0,En h a ha];by_cases hu:mz y t.c=true
  ·rw[if_pos hu,if_pos ⟨h0,hu⟩]
  ·rw[if_neg hu,if_neg (fun x=>hu x.2)]
theorem rm{l:List Pt}(h:aB l=0)(a:Int)(t:Tk)(he:0≤t.e∧t.e≤64)(hf:0≤t.f∧t.f≤64):dF l a t=t.f*(eN l a t+t.e-1):=by
 have:=pL h a t;unfold dF;rw[IntWalk.i64_in (_+_) (by omega),IntWalk.i64_in (_-_) (by omega)];refine IntWalk.i64_in _ ?_;have h1:t.f*(eN l a t+t.e-1)≤t.f*1000:=Int.mul_le_mul_of_nonneg_left (by omega) hf.1;have h2:t.f*(-1)≤t.f*(eN l a t+t.e-1):=Int.mul_le_mul_of_nonneg_left (by omega) hf.1;omega
theorem Q9{l:List Pt}(h:aB l=0){x:Pt}(hx:x∈l){t:Tk}(ht:t∈x.ts):0≤t.f∧t.f≤64:=by
 have h1:=w6 h hx ht;rcases h1.2.2.2.2.2 with h2|h2
 ·omega
 ·refine⟨by omega,?_⟩;have h3:1*t.f≤t.e*t.f:=Int.mul_le_mul_of_nonneg_right (by omega) (by omega);omega
theorem QB{l:List Pt}{y x:Pt}(h:aB l=0)(hb:aB (l++[y])=0)(a:Nat)(ha:a<l.length)(hx:x∈l)(hy:0≤y.bV){t:Tk}(ht:t∈x.ts):dF l (a:Nat) t≤dF (l++[y]) (a:Nat) t∧(¬(t.c>0∧mz y t.c=true)→dF (l++[y]) (a:Nat) t=dF l (a:Nat) t):=by
 have he:=HJ h hx ht;have hf:=Q9 h hx ht;have hc:=(w6 h hx ht).2.2.2.1;rw[rm h _ _ he hf,rm hb _ _ he hf,zi hb a ha];constructor
 ·refine Int.mul_le_mul_of_nonneg_left ?_ hf.1;split<;>omega
 ·intro hn;rw[if_neg (fun z=>hn ⟨by omega,z.2⟩)];simp
theorem Tp{l:List Pt}{y x:Pt}(h:aB l=0)(hb:aB (l++[y])=0)(a:Nat)(ha:a<l.length)(hx:x∈l)(hy:0≤y.bV){t:Tk}(ht:t∈x.ts):ez l (a:Nat) t≤ez (l++[y]) (a:Nat) t∧(¬(t.c>0∧mz y t.c=true)→ez (l++[y]) (a:Nat) t=ez l (a:Nat) t):=by
 have he:=HJ h hx ht;have hc:=(w6 h hx ht).2.2.2.1;unfold ez;by_cases h0:t.c=0
 ·rw[if_pos h0,if_pos h0];exact⟨by omega,fun _=>rfl⟩
 ·rw[if_neg h0,if_neg h0,iO,iO,mA h _ _ he,mA hb _ _ he,zi hb a ha];constructor
  ·split<;>omega
  ·intro hn;rw[if_neg (fun z=>hn ⟨by omega,z.2⟩)];omega
theorem MD{l m:List Pt}{a n:Int}{ts:List Tk}(hm:∀t,t∈ts→ez l a t≤ez m a t):∀j,j≤ts.length→og l a n ts j≤og m a n ts j
 |0,_=>by simp[og]
 |j+1,hj=>by
  have hlt:j<ts.length:=by omega
  have ih:=MD (n:=n) hm j (by omega);have:=hm _ (List.getElem_mem hlt);rw[gu hlt,gu hlt];split
  ·rw[iO,iO];omega
  ·exact ih
theorem Jx{l m:List Pt}{a n:Int}{ts:List Tk}(hm:∀t,t∈ts→ez m a t=ez l a t):∀j,j≤ts.length→og m a n ts j=og l a n ts j
 |0,_=>rfl
 |j+1,hj=>by
  have hlt:j<ts.length:=by omega
  rw[gu hlt,gu hlt,Jx (n:=n) hm j (by omega),hm _ (List.getElem_mem hlt)]
end Ir
end Go.Proofs.Ytecdcefacdodgaa
