/-
  Judge: what is known of a system, as a block's cells. Judge: reading the records; who could run. Judge: must; a tick goes by. Judge: ticks go by; which notes may be. Judge: is what must be there there? Judge: when a task's job does something. Judge: who has what is global. Judge: a partition joins, is gone, changes. Judge: what a task's job does. Judge: a note.
-/
import Derived.Test.YtepdklcpagielaaVJdB
import Derived.Test.YtepdklcpagielaaVDel
import Derived.Test.YtepdklcpagielaaVsP
import Derived.Test.YtepdklcpagielaaVsG
set_option maxRecDepth 100000
set_option linter.unusedSimpArgs false
set_option linter.unusedVariables false
namespace Go.Proofs.Ytepdklcpagielaa
open Go Ads
namespace Ir
structure Jb where
 is:Bool
 tm:Int
 bf:Int
 nx:Int
structure Pr where
 xx:Bool
 cJ:Int
 cn:Int
 ends:Int
 bf:Int
 j0:Jb
 j1:Jb
 j2:Jb
 j3:Jb
 has:Bool
 task:Int
def I3(j:Jb):List AV:=[.bool j.is,.int .i64 j.tm,.int .i64 j.bf,.int .i64 j.nx]
def dG(p:Pr):List AV:=[.bool p.xx,.int .i64 p.cJ,.int .i64 p.cn,.int .i64 p.ends,.int .i64 p.bf,
 .bool p.j0.is,.int .i64 p.j0.tm,.int .i64 p.j0.bf,.int .i64 p.j0.nx,
 .bool p.j1.is,.int .i64 p.j1.tm,.int .i64 p.j1.bf,.int .i64 p.j1.nx,
 .bool p.j2.is,.int .i64 p.j2.tm,.int .i64 p.j2.bf,.int .i64 p.j2.nx,
 .bool p.j3.is,.int .i64 p.j3.tm,.int .i64 p.j3.bf,.int .i64 p.j3.nx,.bool p.has,.int .i64 p.task]
def Pr.js(p:Pr):Nat→Jb
 |0=>p.j0
 |1=>p.j1
 |2=>p.j2
 |_=>p.j3
def Pr.fm(p:Pr)(i:Nat)(j:Jb):Pr:=match i with
 |0=>{p with j0:=j}
 |1=>{p with j1:=j}
 |2=>{p with j2:=j}
 |_=>{p with j3:=j}
def th(ps:List Pr):List AV:=ps.flatMap dG
theorem jT(p:Pr):(dG p).length=23:=rfl
theorem qt(ps:List Pr):(th ps).length=ps.length*23:=by
 induction ps with
 |nil=>rfl
 |cons p ps ih=>
  show(dG p++th ps).length=_;rw[List.length_append,ih,jT,List.length_cons];omega
theorem CL:∀{ps:List Pr} {i f:Nat} (hi:i<ps.length),f<23→∀tl:List AV,(th ps++tl)[i*23+f]?=(dG ps[i])[f]?
 |p::ps,0,f,hi,hf,tl=>by
  show(dG p++th ps++tl)[0*23+f]?=(dG p)[f]?;rw[Nat.zero_mul,Nat.zero_add,List.append_assoc,List.getElem?_append_left (by rw[jT];exact hf)]
 |p::ps,i+1,f,hi,hf,tl=>by
  have:=CL (ps:=ps) (i:=i) (f:=f) (by simpa using hi) hf tl;show(dG p++th ps++tl)[(i+1)*23+f]?=_;rw[List.append_assoc,List.getElem?_append_right (by rw[jT];omega),jT,show(i+1)*23+f-23=i*23+f by omega,this];rfl
theorem EB:∀{ps:List Pr} {i:Nat} (hi:i<ps.length) (tl:List AV),((th ps++tl).drop (i*23)).take 23=dG ps[i]
 |p::ps,0,hi,tl=>by
  show((dG p++th ps++tl).drop (0*23)).take 23=dG p;rw[Nat.zero_mul,List.drop_zero,List.append_assoc,List.take_append_of_le_length (Nat.le_of_eq (jT p).symm),List.take_of_length_le (Nat.le_of_eq (jT p))]
 |p::ps,i+1,hi,tl=>by
  have:=EB (ps:=ps) (i:=i) (by simpa using hi) tl;show((dG p++th ps++tl).drop ((i+1)*23)).take 23=_;rw[List.append_assoc,show(i+1)*23=23+i*23 by omega,←List.drop_drop];show((th ps++tl).drop (i*23)).take 23=_;rw[this];rfl
theorem tu{α:Type}:∀(x:List α) (o:Nat) (v:List α) (y:List α),o+v.length≤x.length→Heap.splice (x++y) o v=Heap.splice x o v++y
 |x,0,[],y,h=>by rw[c8,c8]
 |[],o+1,[],y,h=>by rw[c8,c8]
 |a::x,o+1,[],y,h=>by rw[c8,c8]
 |[],0,_::_,y,h=>by simp at h
 |[],o+1,_::_,y,h=>by simp at h
 |a::x,0,b::v,y,h=>by
  show b::Heap.splice (x++y) 0 v=_;rw[tu x 0 v y (by simp at h⊢;omega)];rfl
 |a::x,o+1,b::v,y,h=>by
  show a::Heap.splice (x++y) o (b::v)=_;rw[tu x o (b::v) y (by simp at h⊢;omega)];rfl
theorem mo{α:Type}:∀(x:List α) (o:Nat) (v:List α) (y:List α),Heap.splice (x++y) (x.length+o) v=x++Heap.splice y o v
 |[],o,v,y=>by simp
 |a::x,o,[],y=>by rw[c8,c8]
 |a::x,o,b::v,y=>by
  have:=mo x o (b::v) y;rw[List.length_cons,show x.length+1+o=x.length+o+1 by omega];show a::Heap.splice (x++y) (x.length+o) (b::v)=_;rw[this];rfl
theorem HL:∀{ps:List Pr} {i f:Nat} (hi:i<ps.length) (v:List AV) (p':Pr),f+v.length≤23→Heap.splice (dG ps[i]) f v=dG p'→∀tl:List AV,Heap.splice (th ps++tl) (i*23+f) v=th (ps.set i p')++tl
 |p::ps,0,f,hi,v,p',hf,hp,tl=>by
  show Heap.splice (dG p++th ps++tl) (0*23+f) v=_;rw[Nat.zero_mul,Nat.zero_add,List.append_assoc,tu _ _ _ _ (by rw[jT];exact hf)];show Heap.splice (dG p) f v++_=dG p'++th ps++tl;rw[show Heap.splice (dG p) f v=dG p' from hp,List.append_assoc]
 |p::ps,i+1,f,hi,v,p',hf,hp,tl=>by
  have:=HL (ps:=ps) (i:=i) (f:=f) (by simpa using hi) v p' hf hp tl;show Heap.splice (dG p++th ps++tl) ((i+1)*23+f) v=dG p++th (ps.set i p')++tl;rw[List.append_assoc,show(i+1)*23+f=(dG p).length+(i*23+f) by rw[jT];omega,mo,this,List.append_assoc]
end Ir
end Go.Proofs.Ytepdklcpagielaa
set_option maxRecDepth 100000
set_option linter.unusedSimpArgs false
set_option linter.unusedVariables false
namespace Go.Proofs.Ytepdklcpagielaa
open Go Ads
namespace Ir
structure RS(h:Heap)(b C:Nat)(X:AV)(tl:List AV)(cs:List Pt)(ps:List Pr):Prop where
 st:h.get b=some (.cells (.sl C 0 cs.length cs.length true::X::(th ps++tl)) true 0)
 cf:h.get C=some (.cells (ai (pts cs)) true 3)
 len:ps.length=4
 le:cs.length≤4
 ne:b≠C
theorem RS.keep{h h':Heap}{b C:Nat}{X:AV}{tl:List AV}{cs:List Pt}{ps:List Pr}(r:RS h b C X tl cs ps)(fr:Fr h h' [])(hb:b<h.next)(hC:C<h.next):RS h' b C X tl cs ps:=
 ⟨(fr.keep b hb (by simp)).trans r.st,(fr.keep C hC (by simp)).trans r.cf,r.len,r.le,r.ne⟩
section
variable {h:Heap} {b C:Nat} {X:AV} {tl:List AV} {cs:List Pt} {ps:List Pr}
theorem RS.ld{o i f:Nat}{v:AV}(r:RS h b C X tl cs ps)(hi:i<ps.length)(hf:f<23)(ho:o=i*23+f+2)(hv:(dG ps[i])[f]?=some v):rV .bC [.ptr b o] h=some v:=by
 refine bA r.st ?_;subst ho;rw[List.getElem?_cons_succ,List.getElem?_cons_succ,CL hi hf];exact hv
theorem RS.AF{o f:Nat}{v:AV}(r:RS h b C X tl cs ps)(ho:o=94+f)(hv:tl[f]?=some v):rV .bC [.ptr b o] h=some v:=by
 refine bA r.st ?_;subst ho;rw[show 94+f=92+f+1+1 by omega,List.getElem?_cons_succ,List.getElem?_cons_succ,List.getElem?_append_right (by rw[qt,r.len];omega),qt,r.len,show 92+f-4*23=f by omega];exact hv
def Pr.left(p:Pr):Bool:=p.xx&&decide (p.bf<p.cn)
theorem Ma{o es:Nat}{vs:List AV}{wr:Bool}{p:Pr}(hg:h.get b=some (.cells vs wr es))(h0:vs[o+0]?=some (.bool p.xx))(h4:vs[o+4]?=some (.int .i64 p.bf))(h2:vs[o+2]?=some (.int .i64 p.cn)){Q:AV→Heap→Prop}(hQ:Q (.bool p.left) h):VD fs ms 102 [.ptr b o] h Q:=by
 refine aC (af:=NH) true rfl (Nat.le_of_ble_eq_true rfl) ?_;conv=>whnf
 refine⟨_,bA hg h0,?_⟩;conv=>whnf
 refine br (fun hc=>?_) (fun hc=>?_)<;>(try rw[hc])<;>(conv=>whnf)
 ·refine⟨_,bA hg h4,?_⟩;conv=>whnf
  refine⟨_,bA hg h2,?_⟩;conv=>whnf
  rw[Pr.left,hc,Bool.true_and] at hQ;exact hQ
 ·rw[Pr.left,hc,Bool.false_and] at hQ;exact hQ
theorem RS.at{o i f:Nat}{v:AV}(r:RS h b C X tl cs ps)(hi:i<ps.length)(hf:f<23)(ho:o=i*23+f+2)(hv:(dG ps[i])[f]?=some v):((.sl C 0 cs.length cs.length true:AV)::X::(th ps++tl))[o]?=some v:=by
 subst ho;rw[List.getElem?_cons_succ,List.getElem?_cons_succ,CL hi hf];exact hv
theorem Gd{i o:Nat}(r:RS h b C X tl cs ps)(hi:i<ps.length)(ho:o=i*23+2){Q:AV→Heap→Prop}(hQ:Q (.bool ps[i].left) h):VD fs ms 102 [.ptr b o] h Q:=
 Ma r.st (r.at hi (f:=0) (by omega) (by omega) rfl) (r.at hi (f:=4) (by omega) (by omega) rfl) (r.at hi (f:=2) (by omega) (by omega) rfl) hQ
theorem RS.whole{o i:Nat}(r:RS h b C X tl cs ps)(hi:i<ps.length)(ho:o=i*23+2):rV (.bn 23) [.ptr b o] h=some (.agg (dG ps[i])):=by
 have hl:o+23≤((.sl C 0 cs.length cs.length true:AV)::X::(th ps++tl)).length:=by
  rw[List.length_cons,List.length_cons,List.length_append,qt];omega
 rw[tU r.st hl];subst ho;rw[show i*23+2=2+i*23 by omega,←List.drop_drop];show some (AV.agg (((th ps++tl).drop (i*23)).take 23))=_;rw[EB hi]
theorem gI{b o n cap j s:Nat}{op:Bool}(h:j<n):pV (.aE s) [.sl b o n cap op,.int .i64 (j:Nat)]=some (.ptr b (o+j*s)):=by
 have b1:Nat.ble (j+1) n=true:=Nat.ble_eq_true_of_le (by omega);simp only[pV,l2,uo];show cond (Nat.ble (j+1) n) (some (AV.ptr b (o+j*s))) none=_;rw[b1,cond_true]
theorem RS.put{o i f n:Nat}{v:AV}{p':Pr}(r:RS h b C X tl cs ps)(hi:i<ps.length)(ho:o=i*23+f+2)(hn:v.cells.length=n)(hf:f+n≤23)(hfl:bx v.cells=true)(hp:Heap.splice (dG ps[i]) f v.cells=dG p'):
  ∃h',eV (.store n) [.ptr b o,v] h=some (.undef,h')∧RS h' b C X tl cs (ps.set i p')∧Fr h h' [b]:=by
 have hb:b≠C:=r.ne;subst ho;refine⟨_,cD r.st hn (by rw[List.length_cons,List.length_cons,List.length_append,qt];omega) hfl,⟨?_,?_,by rw[List.length_set];exact r.len,r.le,r.ne⟩,(Fr.refl h [b]).set (by simp)⟩
 ·rw[aG];have h1:Heap.splice ((.sl C 0 cs.length cs.length true:AV)::X::(th ps++tl)) (i*23+f+2) v.cells=.sl C 0 cs.length cs.length true::X::(th (ps.set i p')++tl):=by
   have:=mo [(.sl C 0 cs.length cs.length true:AV),X] (i*23+f) v.cells (th ps++tl);rw[show([(.sl C 0 cs.length cs.length true:AV),X]:List AV).length+(i*23+f)=i*23+f+2 by simp only[List.length_cons,List.length_nil];omega] at this;rw[show(.sl C 0 cs.length cs.length true:AV)::X::(th ps++tl)=[(.sl C 0 cs.length cs.length true:AV),X]++(th ps++tl) from rfl,this,HL hi v.cells p' (by omega) hp];rfl
  rw[h1]
 ·rw[bB (Ne.symm hb)];exact r.cf
theorem RS.xR{o f:Nat}{v:AV}{tl':List AV}(r:RS h b C X tl cs ps)(ho:o=94+f)(hn:v.cells.length=1)(hf:f+1≤tl.length)(hfl:bx v.cells=true)(hp:Heap.splice tl f v.cells=tl'):
  ∃h',eV (.store 1) [.ptr b o,v] h=some (.undef,h')∧RS h' b C X tl' cs ps∧Fr h h' [b]:=by
 have hb:b≠C:=r.ne;subst ho;have m9:(th ps).length=92:=by rw[qt,r.len]
 refine⟨_,cD r.st hn (by rw[List.length_cons,List.length_cons,List.length_append,m9];omega) hfl,⟨?_,?_,r.len,r.le,r.ne⟩,(Fr.refl h [b]).set (by simp)⟩
 ·rw[aG];have h1:Heap.splice ((.sl C 0 cs.length cs.length true:AV)::X::(th ps++tl)) (94+f) v.cells=.sl C 0 cs.length cs.length true::X::(th ps++tl'):=by
   have:=mo ((.sl C 0 cs.length cs.length true:AV)::X::th ps) f v.cells tl;rw[show((.sl C 0 cs.length cs.length true:AV)::X::th ps).length+f=94+f by simp only[List.length_cons,m9]] at this;rw[show(.sl C 0 cs.length cs.length true:AV)::X::(th ps++tl)=((.sl C 0 cs.length cs.length true:AV)::X::th ps)++tl from rfl,this,hp];rfl
  rw[h1]
 ·rw[bB (Ne.symm hb)];exact r.cf
def cF(ps:List Pr)(i:Nat):Int:=match ps[i]? with
 |some p=>p.ends
 |none=>0
def oS(ps:List Pr)(p:Pr):Option Nat→Bool
 |none=>true
 |some j=>decide (p.ends<cF ps j)
def cr(ps:List Pr):Nat→Option Nat
 |0=>none
 |i+1=>match ps[i]? with
  |some p=>if(p.left&&oS ps p (cr ps i))=true then some i else cr ps i
  |none=>cr ps i
def iS:Option Nat→Int
 |none=>-1
 |some i=>(i:Nat)
theorem sM{ps:List Pr}:∀{n i:Nat},cr ps n=some i→i<n
 |0,i,h=>by simp[cr] at h
 |n+1,i,h=>by
  simp only[cr] at h;split at h
  ·split at h
   ·simp only[Option.some.injEq] at h;omega
   ·have:=sM h;omega
  ·have:=sM h;omega
theorem LU(r:RS h b C X tl cs ps){B:Nat}{Q:AX→Env→Heap→Prop}(hQ:∀e',Tr.get e' 3=some (.int .i64 (iS (cr ps cs.length)))→Q (.exit 0) e' h):
  ∀(m j:Nat) (env:Env),cs.length-j=m→j≤cs.length→aP env [(0,.ptr b 0),(3,.int .i64 (iS (cr ps j))),(8,.int .i64 ((cs.length:Nat):Int)),(9,.int .i64 ((j:Nat):Int))]→
  VC fs ms B false (.loop iI) env h Q:=by
 intro m;induction m using Nat.strongRecOn with
 |ind m ih=>
 intro j env hm hj cH;have hle:=r.le;have hlen:=r.len;refine ak 4 _ cH ?_;refine bJ (aj true ?_);conv=>whnf
 refine aj true ?_;conv=>whnf
 refine br (fun hc=>?_) (fun hc=>?_)<;>(try rw[hc])<;>(conv=>whnf)
 ·have hlt:j<cs.length:=by have:=of_decide_eq_true hc;omega
  have qT:j<ps.length:=by omega
  have ir:cr ps (j+1)=if(ps[j].left&&oS ps ps[j] (cr ps j))=true then some j else cr ps j:=by
   show(match ps[j]? with|some p=>_|none=>_)=_;rw[List.getElem?_eq_getElem qT]
  have jQ:=fun i=>sM (ps:=ps) (n:=j) (i:=i);have oN:∀(f':Option Nat) e',cr ps (j+1)=f'→aP e' [(0,.ptr b 0),(3,.int .i64 (iS f')),(8,.int .i64 ((cs.length:Nat):Int)),(9,.int .i64 (((j+1:Nat):Nat):Int))]→VC fs ms B false (.loop iI) e' h Q:=fun f' e' hf he=>ih (cs.length-(j+1)) (by omega) (j+1) e' rfl (by omega) (by rw[hf];exact he);clear ih;generalize cr ps j=f at*;refine az (aL ?_);refine aj true ?_;conv=>whnf
  refine aj true ?_;conv=>whnf
  refine⟨_,dr (by omega),?_⟩;conv=>whnf
  refine aj true ?_;conv=>whnf
  refine Gd r qT (by omega) ?_;conv=>whnf
  refine br (fun hc=>?_) (fun hc=>?_)<;>(try rw[hc])<;>(conv=>whnf)
  ·rw[hc,Bool.true_and] at ir;rcases f with _|i
   ·rw[show(iS none==-1)=true from rfl];conv=>whnf
    refine aa (z:=true) ?_;conv=>whnf
    refine aa (z:=true) ?_;conv=>whnf
    exact oN (some j) _ (by rw[ir];rfl) ⟨rfl,rfl,rfl,ay (by omega),trivial⟩
   ·have hij:=jQ i rfl;rw[show(iS (some i)==-1)=false from beq_eq_false_iff_ne.2 (by show((i:Nat):Int)≠-1;omega)];conv=>whnf
    refine⟨_,r.ld qT (f:=3) (by omega) (by omega) rfl,?_⟩;conv=>whnf
    refine⟨_,dr (j:=i) (by omega),?_⟩;conv=>whnf
    refine⟨_,r.ld (i:=i) (by omega) (f:=3) (by omega) (by omega) rfl,?_⟩;conv=>whnf
    have hs:oS ps ps[j] (some i)=decide (ps[j].ends<(ps[i]'(by omega)).ends):=by
     simp[oS,cF,List.getElem?_eq_getElem (show i<ps.length by omega)]
    rw[hs] at ir;refine aa (z:=true) ?_;conv=>whnf
    refine br (fun hc=>?_) (fun hc=>?_)<;>(try rw[hc])<;>(conv=>whnf)
    ·rw[hc,if_pos rfl] at ir;refine aa (z:=true) ?_;conv=>whnf
     exact oN (some j) _ ir ⟨rfl,rfl,rfl,ay (by omega),trivial⟩
    ·rw[hc,if_neg (by simp)] at ir;refine aa (z:=true) ?_;conv=>whnf
     exact oN (some i) _ ir ⟨rfl,rfl,rfl,ay (by omega),trivial⟩
  ·rw[hc,Bool.false_and,if_neg (by simp)] at ir;refine aa (z:=true) ?_;conv=>whnf
   refine aa (z:=true) ?_;conv=>whnf
   exact oN f _ ir ⟨rfl,rfl,rfl,ay (by omega),trivial⟩
 ·have hge:j=cs.length:=by have:=of_decide_eq_false hc;omega
  subst hge;exact hQ _ rfl
theorem JH{o n:Nat}(h:n≤4):pV (.iY 23 4 false true false) [.ptr b o,.int .i64 ((n:Nat):Int)]=some (.sl b o n 4 false):=by
 have h1:Nat.ble n 4=true:=Nat.ble_eq_true_of_le h;show(match(cond (Nat.ble 0 n&&Nat.ble n 4&&Nat.ble 4 4) (some (0,n,4)) none:Option (Nat×Nat×Nat)) with|some (l,h,mm)=>some (AV.sl b (o+cond (Nat.beq mm l) 0 (l*23)) (h-l) (mm-l) false)|none=>none)=_;rw[h1];rfl
theorem CB(r:RS h b C X tl cs ps){Q:AV→Heap→Prop}(hQ:Q (.sl b 2 cs.length 4 false) h):VD fs ms 101 [.ptr b 0] h Q:=by
 have hle:=r.le;refine aC (af:=NG) true rfl (Nat.le_of_ble_eq_true rfl) ?_;conv=>whnf
 refine⟨_,bA r.st rfl,?_⟩;conv=>whnf
 refine⟨_,JH hle,?_⟩;conv=>whnf
 exact hQ
theorem Ei(r:RS h b C X tl cs ps){Q:AV→Heap→Prop}(hQ:Q (.int .i64 (iS (cr ps cs.length))) h):VD fs ms 86 [.ptr b 0] h Q:=by
 refine bw (af:=Yr) rfl (Nat.le_of_ble_eq_true rfl) ?_;conv=>whnf
 refine aj true ?_;conv=>whnf
 refine aj true ?_;conv=>whnf
 refine az (aj true ?_);conv=>whnf
 refine CB r ?_;conv=>whnf
 refine aL ?_;refine LU r ?_ cs.length 0 _ rfl (Nat.zero_le _) ⟨rfl,rfl,rfl,rfl,trivial⟩;intro e' g3;show VC fs ms _ _ _ _ _ _;refine ak 4 [(3,.int .i64 (iS (cr ps cs.length)))] ⟨g3,trivial⟩ (aa (z:=true) ?_);conv=>whnf
 exact hQ
end
end Ir
end Go.Proofs.Ytepdklcpagielaa
set_option maxRecDepth 100000
set_option linter.unusedSimpArgs false
set_option linter.unusedVariables false
namespace Go.Proofs.Ytepdklcpagielaa
open Go Ads
namespace Ir
theorem qk{is:Bool}{rule:Int}{h:Heap}{Q R:AV→Heap→Prop}(hQ:is=true→Q (.cQ []) h)(hR:is=false→R (.iface 115 (.int .i64 rule)) h):VX fs ms 84 [.bool is,.int .i64 rule] h Q R:=by
 refine sA (af:=Yp) rfl (Nat.le_of_ble_eq_true rfl) ?_;conv=>whnf
 refine aj true ?_;conv=>whnf
 refine b9 ?_;conv=>whnf
 cases is
 ·conv=>whnf
  refine Ng (z:=true) rfl ?_;conv=>whnf
  exact⟨_,_,rfl,rfl,hR rfl⟩
 ·conv=>whnf
  refine aa (z:=true) ?_;conv=>whnf
  exact⟨_,rfl,hQ rfl⟩
def x6(p:Pr):Bool:=!p.xx||(!p.has||p.left)
theorem UT{h0:Heap}{b C:Nat}{X:AV}{tl:List AV}{cs:List Pt}{ps:List Pr}(r:RS h0 b C X tl cs ps)(hb:b<h0.next)(hC:C<h0.next){B:Nat}{Q:AX→Env→Heap→Prop}
  (hQ:(ps.take cs.length).all x6=true→∀e' h',Fr h0 h' []→Tr.get e' 0=some (.ptr b 0)→Q (.exit 0) e' h')
  (hP:(ps.take cs.length).all x6=false→∀e' h',Fr h0 h' []→Q (.panic (.iface 115 (.int .i64 8))) e' h'):
  ∀(m j:Nat) (h:Heap) (env:Env),cs.length-j=m→j≤cs.length→(ps.take j).all x6=true→Fr h0 h []→aP env [(0,.ptr b 0),(7,.sl b 2 cs.length 4 false),(8,.int .i64 ((cs.length:Nat):Int)),(9,.int .i64 ((j:Nat):Int))]→
  VC fs ms B false (.loop kz) env h Q:=by
 intro m;induction m using Nat.strongRecOn with
 |ind m ih=>
 intro j h env hm hj hi fr cH;have hle:=r.le;have hlen:=r.len;refine ak 4 _ cH ?_;refine bJ (aj true ?_);conv=>whnf
 refine aj true ?_;conv=>whnf
 refine br (fun hc=>?_) (fun hc=>?_)<;>(try rw[hc])<;>(conv=>whnf)
 ·have hlt:j<cs.length:=by have:=of_decide_eq_true hc;omega
  have qT:j<ps.length:=by omega
  have rh:=r.keep fr hb hC;have LI:=rh.whole qT (o:=2+j*23) (by omega);have hno:x6 ps[j]=false→∀e' h',Fr h0 h' []→Q (.panic (.iface 115 (.int .i64 8))) e' h':=fun hf=>hP (by
   rw[List.all_eq_false];exact⟨ps[j],by rw[List.mem_take_iff_getElem];exact⟨j,by omega,rfl⟩,by simp[hf]⟩)
  have oN:x6 ps[j]=true→∀e' h',Fr h0 h' []→aP e' [(0,.ptr b 0),(7,.sl b 2 cs.length 4 false),(8,.int .i64 ((cs.length:Nat):Int)),(9,.int .i64 (((j+1:Nat):Nat):Int))]→VC fs ms B false (.loop kz) e' h' Q:=fun hf e' h' fr' he=>
   ih (cs.length-(j+1)) (by omega) (j+1) h' e' rfl (by omega) (nD qT hi hf) fr' he
  clear ih hQ hP;generalize ps[j]=p at*;refine az (aL ?_);refine aj true ?_;conv=>whnf
  refine⟨_,gI hlt,?_⟩;conv=>whnf
  refine⟨_,LI,?_⟩;conv=>whnf
  refine aT (cD (n:=23) (v:=.agg (dG p)) an rfl (Nat.le_refl _) rfl) fun h1 e1=>?_;conv=>whnf
  have JV:h1.get h.next=some (.cells (dG p) true 0):=by rw[e1,aG];rfl
  have cT:Fr h0 h1 []:=by rw[e1];exact fr.trans (((Fr.refl h []).new (x:=_)).lD (Nat.le_refl _))
  clear e1;refine jV (z:=true) rfl ?_;conv=>whnf
  refine⟨_,bA JV rfl,?_⟩;conv=>whnf
  have hend:∀ok:Bool,x6 p=ok→∀K R:AV→Heap→Prop,(ok=true→K (.cQ []) h1)→(ok=false→R (.iface 115 (.int .i64 8)) h1)→VX fs ms 84 [.bool ok,.int .i64 8] h1 K R:=fun ok _ K R h1 h2=>qk h1 h2;refine br (fun hc=>?_) (fun hc=>?_)<;>(try rw[hc])<;>(conv=>whnf)
  ·have h8:x6 p=true:=by rw[x6,hc,Bool.true_or]
   refine hend true h8 _ _ (fun _=>?_) (fun hf=>by simp at hf);conv=>whnf
   refine aa (z:=true) ?_;conv=>whnf
   exact oN h8 _ _ cT ⟨rfl,rfl,rfl,ay (by omega),trivial⟩
  ·refine⟨_,bA JV rfl,?_⟩;conv=>whnf
   have hin:=hc;refine br (fun hc=>?_) (fun hc=>?_)<;>(try rw[hc])<;>(conv=>whnf)
   ·have h8:x6 p=true:=by rw[x6,hin,hc];rfl
    refine hend true h8 _ _ (fun _=>?_) (fun hf=>by simp at hf);conv=>whnf
    refine aa (z:=true) ?_;conv=>whnf
    exact oN h8 _ _ cT ⟨rfl,rfl,rfl,ay (by omega),trivial⟩
   ·have h8:x6 p=p.left:=by rw[x6,hin,hc];rfl
    refine Ma (p:=p) JV rfl rfl rfl ?_;conv=>whnf
    refine hend p.left h8 _ _ (fun ht=>?_) (fun hf=>hno (h8.trans hf) _ _ cT);conv=>whnf
    refine aa (z:=true) ?_;conv=>whnf
    exact oN (h8.trans ht) _ _ cT ⟨rfl,rfl,rfl,ay (by omega),trivial⟩
 ·have hge:j=cs.length:=by have:=of_decide_eq_false hc;omega
  subst hge;exact hQ hi _ _ fr rfl
def kj(nw:Int)(p:Pr):Option Pr:=if(p.xx&&p.ends==nw)=true then(if(p.bf==p.cn)=true then some {p with bf:=0,ends:=IntKind.i64.wrap (nw+p.cJ)} else none) else some p
def gU(nw:Int)(ps:List Pr):Nat→Option (List Pr)
 |0=>some ps
 |j+1=>match gU nw ps j with
  |none=>none
  |some qs=>match qs[j]? with
   |none=>some qs
   |some p=>(kj nw p).map fun p'=>qs.set j p'
theorem uq{nw:Int}{ps:List Pr}{j:Nat}(h:gU nw ps j=none):∀k,gU nw ps (j+k)=none
 |0=>h
 |k+1=>by
  show(match gU nw ps (j+k) with|none=>none|some qs=>_)=none;rw[uq h k]
theorem Fr.acI{h h1 h2:Heap}{bs:List Nat}(a:Fr h h1 bs)(b:Fr h1 h2 bs):Fr h h2 bs:=a.trans b
theorem UU{h0:Heap}{b C:Nat}{X:AV}{tl:List AV}{cs:List Pt}{ps:List Pr}{nw:Int}(Re:tl[1]?=some (.int .i64 nw)){B:Nat}{Q:AX→Env→Heap→Prop}
  (hQ:∀qs,gU nw ps cs.length=some qs→∀e' h',RS h' b C X tl cs qs→Fr h0 h' [b]→Q (.exit 2) e' h')
  (hP:gU nw ps cs.length=none→∀qs e' h',RS h' b C X tl cs qs→Fr h0 h' [b]→Q (.panic (.iface 115 (.int .i64 4))) e' h'):
  ∀(m j:Nat) (h:Heap) (qs:List Pr) (env:Env),cs.length-j=m→j≤cs.length→gU nw ps j=some qs→RS h b C X tl cs qs→Fr h0 h [b]→aP env [(0,.ptr b 0),(57,.int .i64 ((cs.length:Nat):Int)),(58,.int .i64 ((j:Nat):Int))]→
  VC fs ms B false (.loop kA) env h Q:=by
 intro m;induction m using Nat.strongRecOn with
 |ind m ih=>
 intro j h qs env hm hj FU r fr cH;have hle:=r.le;have hlen:=r.len;refine ak 6 _ cH ?_;refine bJ (aj true ?_);conv=>whnf
 refine aj true ?_;conv=>whnf
 refine br (fun hc=>?_) (fun hc=>?_)<;>(try rw[hc])<;>(conv=>whnf)
 ·have hlt:j<cs.length:=by have:=of_decide_eq_true hc;omega
  have qT:j<qs.length:=by omega
  have ir:gU nw ps (j+1)=(kj nw qs[j]).map fun p'=>qs.set j p':=by
   show(match gU nw ps j with|none=>none|some qs=>_)=_;rw[FU];show(match qs[j]? with|none=>some qs|some p=>_)=_;rw[List.getElem?_eq_getElem qT]
  have hno:kj nw qs[j]=none→∀qs e' h',RS h' b C X tl cs qs→Fr h0 h' [b]→Q (.panic (.iface 115 (.int .i64 4))) e' h':=fun hf=>hP (by
   rw[hf] at ir;have:=uq (nw:=nw) (ps:=ps) (j:=j+1) ir (cs.length-(j+1))
   rwa [show j+1+(cs.length-(j+1))=cs.length by omega] at this)
  have oN:∀p',kj nw qs[j]=some p'→∀h' e',RS h' b C X tl cs (qs.set j p')→Fr h0 h' [b]→aP e' [(0,.ptr b 0),(57,.int .i64 ((cs.length:Nat):Int)),(58,.int .i64 (((j+1:Nat):Nat):Int))]→VC fs ms B false (.loop kA) e' h' Q:=fun p' hf h' e' r' fr' he=>
   ih (cs.length-(j+1)) (by omega) (j+1) h' _ e' rfl (by omega) (by rw[ir,hf];rfl) r' fr' he
  clear ih hQ hP ir;refine az (aL ?_);refine aj true ?_;conv=>whnf
  refine aj true ?_;conv=>whnf
  refine⟨_,dr (by omega),?_⟩;conv=>whnf
  refine aj true ?_;conv=>whnf
  refine⟨_,r.ld qT (f:=0) (by omega) (by omega) rfl,?_⟩;conv=>whnf
  have gB:qs.set j qs[j]=qs:=List.set_getElem_self qT;refine br (fun hc=>?_) (fun hc=>?_)<;>(try rw[hc])<;>(conv=>whnf)
  ·have hin:=hc;refine⟨_,r.ld qT (f:=3) (by omega) (by omega) rfl,?_⟩;conv=>whnf
   refine⟨_,r.AF (f:=1) (by omega) Re,?_⟩;conv=>whnf
   refine b9 ?_;conv=>whnf
   refine br (fun hc=>?_) (fun hc=>?_)<;>(try rw[hc])<;>(conv=>whnf)
   ·have hst:kj nw qs[j]=if(qs[j].bf==qs[j].cn)=true then some {qs[j] with bf:=0,ends:=IntKind.i64.wrap (nw+qs[j].cJ)} else none:=by rw[kj,if_pos (by rw[hin,hc];rfl)]
    refine az (z6 (z:=true) rfl rfl rfl ?_);conv=>whnf
    refine⟨_,r.ld qT (f:=4) (by omega) (by omega) rfl,?_⟩;conv=>whnf
    refine⟨_,r.ld qT (f:=2) (by omega) (by omega) rfl,?_⟩;conv=>whnf
    refine qk (fun ht=>?_) (fun hf=>hno (by rw[hst,if_neg (by rw[hf];simp)]) qs _ _ r fr);rw[if_pos ht] at hst;conv=>whnf
    refine aa (z:=true) ?_;conv=>whnf
    refine⟨_,r.AF (f:=1) (by omega) Re,?_⟩;conv=>whnf
    refine⟨_,r.ld qT (f:=1) (by omega) (by omega) rfl,?_⟩;conv=>whnf
    obtain⟨h1,s1,r1,cT⟩:=r.put (v:=.int .i64 0) (n:=1) (p':={qs[j] with bf:=0}) qT (f:=4) (o:=0+2+j*23+4) (by omega) rfl (by omega) rfl rfl;refine aT s1 fun La e1=>?_;subst e1;conv=>whnf
    obtain⟨h2,s2,r2,fq⟩:=r1.put (v:=.int .i64 (IntKind.i64.wrap (nw+qs[j].cJ))) (n:=1) (i:=j) (p':={qs[j] with bf:=0,ends:=IntKind.i64.wrap (nw+qs[j].cJ)}) (by rw[List.length_set];exact qT) (f:=3) (o:=0+2+j*23+3) (by omega) rfl (by omega) rfl (by rw[List.getElem_set_self];rfl);refine aT s2 fun rF e2=>?_;subst e2;conv=>whnf
    rw[List.set_set] at r2;refine aa (z:=true) ?_;conv=>whnf
    exact oN _ hst _ _ r2 (fr.trans (cT.trans fq)) ⟨rfl,rfl,ay (by omega),trivial⟩
   ·refine aa (z:=true) ?_;conv=>whnf
    refine aa (z:=true) ?_;conv=>whnf
    exact oN qs[j] (by rw[kj,if_neg (by rw[hin,hc];simp)]) _ _ (by rw[gB];exact r) fr ⟨rfl,rfl,ay (by omega),trivial⟩
  ·refine aa (z:=true) ?_;conv=>whnf
   refine aa (z:=true) ?_;conv=>whnf
   exact oN qs[j] (by rw[kj,if_neg (by rw[hc];simp)]) _ _ (by rw[gB];exact r) fr ⟨rfl,rfl,ay (by omega),trivial⟩
 ·have hge:j=cs.length:=by have:=of_decide_eq_false hc;omega
  subst hge;exact hQ qs FU _ _ r fr
def xK(n:Nat)(ps:List Pr)(now:Int)(bf gone:Bool):Int ⊕List Pr:=
 if(ps.take n).all x6=false then .inl 8
 else if(bf||(gone||(iS (cr ps n)==-1)))=false then .inl 3
 else match gU (IntKind.i64.wrap (now+1)) ps n with
  |none=>.inl 4
  |some qs=>.inr qs
def tI(un now:Int)(bf gone:Bool)(at_:Int):List AV:=[.int .i64 un,.int .i64 now,.bool bf,.bool gone,.int .i64 at_]
theorem aaE{h0:Heap}{b C:Nat}{X:AV}{cs:List Pt}{ps:List Pr}{un now at_:Int}{bf gone:Bool}(r:RS h0 b C X (tI un now bf gone at_) cs ps)(hb:b<h0.next)(hC:C<h0.next){Q R:AV→Heap→Prop}
  (hQ:∀qs,xK cs.length ps now bf gone=.inr qs→∀h',RS h' b C X (tI un (IntKind.i64.wrap (now+1)) false false at_) cs qs→Fr h0 h' [b]→Q (.cQ []) h')
  (hR:∀rule,xK cs.length ps now bf gone=.inl rule→∀h' tl qs,RS h' b C X tl cs qs→tl[4]?=some (.int .i64 at_)→Fr h0 h' [b]→R (.iface 115 (.int .i64 rule)) h'):VX fs ms 93 [.ptr b 0] h0 Q R:=by
 refine sA (af:=Yy) rfl (Nat.le_of_ble_eq_true rfl) ?_;conv=>whnf
 refine az (aj true ?_);conv=>whnf
 refine CB r ?_;conv=>whnf
 refine aL ?_;have Np:∀{h'},Fr h0 h' []→Fr h0 h' [b]:=fun f=>⟨f.next,fun c hc hn=>f.keep c hc (by simp)⟩;refine UT r hb hC ?_ (fun hf e' h' fr=>hR 8 (by rw[xK,if_pos hf]) h' _ ps (r.keep fr hb hC) rfl (Np fr)) cs.length 0 h0 _ rfl (Nat.zero_le _) rfl (Fr.refl h0 []) ⟨rfl,rfl,rfl,rfl,trivial⟩;intro hall e' h1 cT g0;show VC fs ms _ _ _ _ _ _;have r1:=r.keep cT hb hC;have cT:=Np cT;refine ak 4 [(0,.ptr b 0)] ⟨g0,trivial⟩ ?_;have h3:(bf||(gone||(iS (cr ps cs.length)==-1)))=false→xK cs.length ps now bf gone=.inl 3:=fun hf=>by rw[xK,if_neg (by rw[hall];simp),if_pos hf]
 have Hx:∀ok:Bool,(bf||(gone||(iS (cr ps cs.length)==-1)))=ok→∀K R':AV→Heap→Prop,(ok=true→K (.cQ []) h1)→(R (.iface 115 (.int .i64 3)) h1→R' (.iface 115 (.int .i64 3)) h1)→VX fs ms 84 [.bool ok,.int .i64 3] h1 K R':=fun ok he K R' hk hr=>qk hk (fun hf=>hr (hR 3 (h3 (he.trans hf)) h1 _ ps r1 rfl cT));refine az (VC.mono (Q:=fun x e h=>(x=.normal∧(bf||(gone||(iS (cr ps cs.length)==-1)))=true∧h=h1∧Tr.get e 0=some (.ptr b 0))∨∃v,x=.panic v∧R v h) ?_ ?_)
 ·refine jV (z:=true) rfl ?_;conv=>whnf
  refine⟨_,r1.AF (f:=2) (by omega) rfl,?_⟩;conv=>whnf
  clear hQ hR h3;cases bf
  ·conv=>whnf
   refine⟨_,r1.AF (f:=3) (by omega) rfl,?_⟩;conv=>whnf
   cases gone
   ·conv=>whnf
    refine Ei r1 ?_;conv=>whnf
    exact Hx _ rfl _ _ (fun ht=>.inl ⟨rfl,ht,rfl,rfl⟩) (fun hr=>.inr ⟨_,rfl,hr⟩)
   ·conv=>whnf
    exact Hx true rfl _ _ (fun ht=>.inl ⟨rfl,rfl,rfl,rfl⟩) (fun hr=>.inr ⟨_,rfl,hr⟩)
  ·conv=>whnf
   exact Hx true rfl _ _ (fun ht=>.inl ⟨rfl,rfl,rfl,rfl⟩) (fun hr=>.inr ⟨_,rfl,hr⟩)
 rintro x e2 h2 (⟨rfl,ht,rfl,g0⟩|⟨v,rfl,hr⟩)
 rotate_left
 ·exact hr
 have hby:xK cs.length ps now bf gone=match gU (IntKind.i64.wrap (now+1)) ps cs.length with
  |none=>.inl 4
  |some qs=>.inr qs:=by rw[xK,if_neg (by rw[hall];simp),if_neg (by rw[ht];simp)]
 clear Hx h3;show VC fs ms _ _ _ _ _ _;refine ak 4 [(0,.ptr b 0)] ⟨g0,trivial⟩ ?_;refine aj true ?_;conv=>whnf
 refine⟨_,r1.AF (f:=1) (by omega) rfl,?_⟩;conv=>whnf
 obtain⟨h4,s4,r4,jY⟩:=r1.xR (v:=.int .i64 (IntKind.i64.wrap (now+1))) (f:=1) (o:=0+95) (tl':=tI un (IntKind.i64.wrap (now+1)) bf gone at_) (by omega) rfl (by simp[tI]) rfl rfl;refine aT s4 fun Uo e4=>?_;subst e4;conv=>whnf
 refine aj true ?_;conv=>whnf
 obtain⟨h5,s5,r5,k9⟩:=r4.xR (v:=.bool false) (f:=2) (o:=0+96) (tl':=tI un (IntKind.i64.wrap (now+1)) false gone at_) (by omega) rfl (by simp[tI]) rfl rfl;refine aT s5 fun O6 e5=>?_;subst e5;conv=>whnf
 obtain⟨h6,s6,r6,tG⟩:=r5.xR (v:=.bool false) (f:=3) (o:=0+97) (tl':=tI un (IntKind.i64.wrap (now+1)) false false at_) (by omega) rfl (by simp[tI]) rfl rfl;refine aT s6 fun O7 e6=>?_;subst e6;conv=>whnf
 refine aj true ?_;conv=>whnf
 refine CB r6 ?_;conv=>whnf
 refine aL ?_;have aaN:=cT.trans (jY.trans (k9.trans tG));refine UU (h0:=h0) (ps:=ps) (nw:=IntKind.i64.wrap (now+1)) rfl (fun qs he e' h' r' fr'=>?_) (fun he qs e' h' r' fr'=>?_) cs.length 0 O7 ps _ rfl (Nat.zero_le _) rfl r6 aaN ⟨rfl,rfl,rfl,trivial⟩
 ·exact⟨_,rfl,hQ qs (by rw[hby,he]) h' r' fr'⟩
 ·exact hR 4 (by rw[hby,he]) h' _ qs r' rfl fr'
end Ir
end Go.Proofs.Ytepdklcpagielaa
set_option maxRecDepth 100000
set_option linter.unusedSimpArgs false
set_option linter.unusedVariables false
namespace Go.Proofs.Ytepdklcpagielaa
open Go Ads
namespace Ir
abbrev Kn:=List Pr×Int×Bool×Bool
def nV(n:Nat):Nat→List Pr→Int→Bool→Bool→Int ⊕Kn
 |0,ps,now,bf,gone=>.inr (ps,now,bf,gone)
 |k+1,ps,now,bf,gone=>match xK n ps now bf gone with
  |.inl r=>.inl r
  |.inr qs=>nV n k qs (now+1) false false
theorem acH{h0:Heap}{b C:Nat}{X:AV}{cs:List Pt}{un at_ uI:Int}(hto:uI≤10000){B:Nat}{Q:AX→Env→Heap→Prop}:∀(k:Nat) (h:Heap) (ps:List Pr) (now:Int) (bf gone:Bool) (env:Env),RS h b C X (tI un now bf gone at_) cs ps→b<h.next→C<h.next→0≤now→k=(uI-now).toNat→Fr h0 h [b]→
  (∀s:Kn,nV cs.length k ps now bf gone=.inr s→∀e' h',RS h' b C X (tI un s.2.1 s.2.2.1 s.2.2.2 at_) cs s.1→Fr h0 h' [b]→Q (.exit 0) e' h')→
  (∀rule,nV cs.length k ps now bf gone=.inl rule→∀e' h' tl qs,RS h' b C X tl cs qs→tl[4]?=some (.int .i64 at_)→Fr h0 h' [b]→Q (.panic (.iface 115 (.int .i64 rule))) e' h')→
  aP env [(0,.ptr b 0),(1,.int .i64 uI)]→VC fs ms B false (.loop og) env h Q:=by
 intro k;induction k with
 |zero=>
  intro h ps now bf gone env r hb hC h0n hk fr hQ hR cH;refine ak 4 _ cH ?_;refine bJ (aj true ?_);conv=>whnf
  refine⟨_,r.AF (f:=1) (by omega) rfl,?_⟩;conv=>whnf
  rw[show decide (now<uI)=false from decide_eq_false (by omega)];conv=>whnf
  exact hQ (ps,now,bf,gone) rfl _ _ r fr
 |succ k ih=>
  intro h ps now bf gone env r hb hC h0n hk fr hQ hR cH;refine ak 4 _ cH ?_;refine bJ (aj true ?_);conv=>whnf
  refine⟨_,r.AF (f:=1) (by omega) rfl,?_⟩;conv=>whnf
  rw[show decide (now<uI)=true from decide_eq_true (by omega)];conv=>whnf
  refine aL ?_;refine jV (z:=true) rfl ?_;conv=>whnf
  refine aaE r hb hC (fun qs hs h' r' fr'=>?_) (fun rule hs h' tl qs r' ht fr'=>?_)
  ·conv=>whnf
   have hw:IntKind.i64.wrap (now+1)=now+1:=IntWalk.i64_in _ (by omega);rw[hw] at r';have hto:nV cs.length (k+1) ps now bf gone=nV cs.length k qs (now+1) false false:=by rw[nV,hs]
   rw[hto] at hQ hR;exact ih h' qs (now+1) false false _ r' (Nat.lt_of_lt_of_le hb fr'.next) (Nat.lt_of_lt_of_le hC fr'.next) (by omega) (by omega) (fr.trans fr') hQ hR ⟨rfl,rfl,trivial⟩
  ·exact hR rule (by rw[nV,hs]) _ h' tl qs r' ht (fr.trans fr')
theorem Xm{h0:Heap}{b C:Nat}{X:AV}{cs:List Pt}{ps:List Pr}{un now at_ uI:Int}{bf gone:Bool}(r:RS h0 b C X (tI un now bf gone at_) cs ps)(hb:b<h0.next)(hC:C<h0.next)(hn:0≤now)(hto:uI≤10000){Q R:AV→Heap→Prop}
  (hQ:∀s:Kn,nV cs.length (uI-now).toNat ps now bf gone=.inr s→∀h',RS h' b C X (tI un s.2.1 s.2.2.1 s.2.2.2 at_) cs s.1→Fr h0 h' [b]→Q (.cQ []) h')
  (hR:∀rule,nV cs.length (uI-now).toNat ps now bf gone=.inl rule→∀h' tl qs,RS h' b C X tl cs qs→tl[4]?=some (.int .i64 at_)→Fr h0 h' [b]→R (.iface 115 (.int .i64 rule)) h'):VX fs ms 65 [.ptr b 0,.int .i64 uI] h0 Q R:=by
 refine sA (af:=Yb) rfl (Nat.le_of_ble_eq_true rfl) ?_;conv=>whnf
 refine aL ?_;refine acH hto (uI-now).toNat h0 ps now bf gone _ r hb hC hn rfl (Fr.refl h0 [b]) (fun s hs e' h' r' fr'=>⟨_,rfl,hQ s hs h' r' fr'⟩) (fun rule hs e' h' tl qs r' ht fr'=>hR rule hs h' tl qs r' ht fr') ⟨rfl,rfl,trivial⟩
def bQ(x:Nt):Bool:=x.k==6||(x.k==7||x.k==8)
theorem Da(x:Nt):PC fs ms 88 [nt x] (.bool (bQ x)):=by
 refine aX rfl rfl ?_;refine aC (af:=Yt) false rfl (Nat.le_of_ble_eq_true rfl) ?_;generalize hQ:(fun(u:AV) (_:Heap)=>u=.bool (bQ x))=Q;have hk:∀b h,bQ x=b→Q (.bool b) h:=by subst hQ;intro b h hb;rw[hb]
 conv=>whnf
 refine br (fun hc=>?_) (fun hc=>?_)<;>(try rw[hc])<;>(conv=>whnf)
 ·exact hk _ _ (by rw[bQ,hc];rfl)
 ·have h1:=hc;refine br (fun hc=>?_) (fun hc=>?_)<;>(try rw[hc])<;>(conv=>whnf)
  ·exact hk _ _ (by rw[bQ,h1,hc];rfl)
  ·exact hk _ _ (by rw[bQ,h1,hc,Bool.false_or,Bool.false_or])
def lT(cs:List Pt)(i:Int):Nat:=match cs[i.toNat]? with
 |some c=>c.ts.length
 |none=>0
def cX(cs:List Pt)(now un:Int)(x:Nt):Bool:=
 if(decide (x.a<now)||(decide (x.a>un)||(decide (x.k<1)||(decide (x.k>8)||(decide (x.p<0)||decide (x.p≥(cs.length:Nat)))))))=true then false
 else if bQ x=true then x.t==0
 else(decide (x.t≥0)||(x.t==-1&&x.k==1))&&decide (x.t<(lT cs x.p:Nat))
theorem ez{t:Nat}{e:Env}{h:Heap}{Q:AV→Heap→Prop}{v:AV}(hg:Tr.get e t=some v)(hq:Q v h):vX [.tmp t] Q .ret e h:=by
 simp only[vX,er,oR,hg];exact hq
theorem sx{cs:List Pt}{i:Int}(h0:0≤i)(h1:i<(cs.length:Nat)):∃(j:Nat) (hj:j<cs.length),i=((j:Nat):Int)∧lT cs i=cs[j].ts.length:=by
 have hj:i.toNat<cs.length:=by omega
 exact⟨i.toNat,hj,by omega,by rw[lT,List.getElem?_eq_getElem hj]⟩
theorem CM{cs:List Pt}{j f:Nat}(hj:j<cs.length)(hf:f<3):(ai (pts cs))[j*3+f]?=(pt cs[j]).cells[f]?:=by
 have:=p9 (l:=pts cs) (z:=3) (i:=j) (j:=f) (x:=pt cs[j]) (c:=((pt cs[j]).cells[f]?).getD .undef) (ew (enc:=pt) (fun _=>rfl) cs) (by simp[pts,hj]) (by
  match f,hf with
  |0,_=>rfl
  |1,_=>rfl
  |2,_=>rfl)
 rw[this]
 match f,hf with
 |0,_=>rfl
 |1,_=>rfl
 |2,_=>rfl
theorem MS{h0:Heap}{b C:Nat}{X:AV}{cs:List Pt}{ps:List Pr}{un now at_:Int}{bf gone:Bool}(r:RS h0 b C X (tI un now bf gone at_) cs ps)(hb:b<h0.next)(hC:C<h0.next)(x:Nt){Q:AV→Heap→Prop}
  (hQ:∀h',Fr h0 h' []→Q (.bool (cX cs now un x)) h'):VD fs ms 85 [.ptr b 0,nt x] h0 Q:=by
 refine bw (af:=Yq) rfl (Nat.le_of_ble_eq_true rfl) ?_;conv=>whnf
 refine aj true ?_;conv=>whnf
 have gs:(h0.new (.cells (nt x).cells true 0)).get h0.next=some (.cells (nt x).cells true 0):=an;have cT:Fr h0 (h0.new (.cells (nt x).cells true 0)) []:=(Fr.refl h0 []).new;have r1:=r.keep cT hb hC;generalize h0.new (.cells (nt x).cells true 0)=h1 at*;refine az (VC.mono (Q:=fun y e h=>h=h1∧((y=.ret∧cX cs now un x=false∧Tr.get e 4=some (.bool false))∨(y=.normal∧cX cs now un x=(if bQ x=true then x.t==0 else(decide (x.t≥0)||(x.t==-1&&x.k==1))&&decide (x.t<(lT cs x.p:Nat)))∧(bQ x=true∨bQ x=false)∧0≤x.p∧x.p<(cs.length:Nat)∧aP e [(0,.ptr b 0),(3,.ptr h0.next 0)]))) ?_ ?_)
 ·have ur:(decide (x.a<now)||(decide (x.a>un)||(decide (x.k<1)||(decide (x.k>8)||(decide (x.p<0)||decide (x.p≥(cs.length:Nat)))))))=true→cX cs now un x=false:=fun hf=>by rw[cX,if_pos hf]
  have ve:(decide (x.a<now)||(decide (x.a>un)||(decide (x.k<1)||(decide (x.k>8)||(decide (x.p<0)||decide (x.p≥(cs.length:Nat)))))))=false→cX cs now un x=(if bQ x=true then x.t==0 else(decide (x.t≥0)||(x.t==-1&&x.k==1))&&decide (x.t<(lT cs x.p:Nat))):=fun hf=>by rw[cX,if_neg (by rw[hf];simp)]
  have hw2:bQ x=true∨bQ x=false:=by cases bQ x<;>simp
  refine aj true ?_;conv=>whnf
  refine⟨_,bA gs rfl,?_⟩;conv=>whnf
  refine⟨_,r1.AF (f:=1) (by omega) rfl,?_⟩;conv=>whnf
  refine br (fun hc=>?_) (fun hc=>?_)<;>(try rw[hc])<;>(conv=>whnf)
  ·refine aa (z:=true) ?_;conv=>whnf
   exact⟨rfl,.inl ⟨rfl,ur (by simp only[hc,Bool.true_or,Bool.or_true,Bool.false_or]),rfl⟩⟩
  ·have c1:=hc;refine⟨_,bA gs rfl,?_⟩;conv=>whnf
   refine⟨_,r1.AF (f:=0) (by omega) rfl,?_⟩;conv=>whnf
   refine br (fun hc=>?_) (fun hc=>?_)<;>(try rw[hc])<;>(conv=>whnf)
   ·refine aa (z:=true) ?_;conv=>whnf
    exact⟨rfl,.inl ⟨rfl,ur (by simp only[c1,hc,Bool.true_or,Bool.or_true,Bool.false_or]),rfl⟩⟩
   ·have c2:=hc;refine⟨_,bA gs rfl,?_⟩;conv=>whnf
    refine br (fun hc=>?_) (fun hc=>?_)<;>(try rw[hc])<;>(conv=>whnf)
    ·refine aa (z:=true) ?_;conv=>whnf
     exact⟨rfl,.inl ⟨rfl,ur (by simp only[c1,c2,hc,Bool.true_or,Bool.or_true,Bool.false_or]),rfl⟩⟩
    ·have c3:=hc;refine⟨_,bA gs rfl,?_⟩;conv=>whnf
     refine br (fun hc=>?_) (fun hc=>?_)<;>(try rw[hc])<;>(conv=>whnf)
     ·refine aa (z:=true) ?_;conv=>whnf
      exact⟨rfl,.inl ⟨rfl,ur (by simp only[c1,c2,c3,hc,Bool.true_or,Bool.or_true,Bool.false_or]),rfl⟩⟩
     ·have c4:=hc;refine⟨_,bA gs rfl,?_⟩;conv=>whnf
      refine br (fun hc=>?_) (fun hc=>?_)<;>(try rw[hc])<;>(conv=>whnf)
      ·refine aa (z:=true) ?_;conv=>whnf
       exact⟨rfl,.inl ⟨rfl,ur (by simp only[c1,c2,c3,c4,hc,Bool.true_or,Bool.or_true,Bool.false_or]),rfl⟩⟩
      ·have c5:=hc;refine⟨_,bA gs rfl,?_⟩;conv=>whnf
       refine⟨_,bA r1.st rfl,?_⟩;conv=>whnf
       refine aa (z:=true) ?_;conv=>whnf
       refine br (fun hc=>?_) (fun hc=>?_)<;>(try rw[hc])<;>(conv=>whnf)
       ·exact⟨rfl,.inl ⟨rfl,ur (by simp only[c1,c2,c3,c4,c5,hc,Bool.true_or,Bool.or_true,Bool.false_or]),rfl⟩⟩
       ·have h5:=of_decide_eq_false c5;have h6:=of_decide_eq_false hc;exact⟨rfl,.inr ⟨rfl,ve (by simp only[c1,c2,c3,c4,c5,hc,Bool.or_self]),hw2,by omega,by omega,rfl,rfl,trivial⟩⟩
 rintro y e h ⟨rfl,⟨rfl,hs,g4⟩|⟨rfl,hs,hw2,hp1,We,he⟩⟩
 ·exact ez (v:=.bool false) g4 (by rw[←hs];exact hQ h cT)
 obtain⟨j,hj,Zc,xP⟩:=sx hp1 We;rw[xP] at hs;refine ak 4 _ he ?_;refine az (aj true ?_);conv=>whnf
 refine⟨nt x,tU (n:=7) gs (Nat.le_refl _),?_⟩;conv=>whnf
 refine au (Da x) ?_;conv=>whnf
 refine aa (z:=true) ?_;conv=>whnf
 refine br (fun hc=>?_) (fun hc=>?_)<;>(try rw[hc])<;>(conv=>whnf)
 ·refine⟨_,bA gs rfl,?_⟩;conv=>whnf
  rw[hc,if_pos rfl] at hs;rw[←hs];exact hQ h cT
 ·rw[if_neg (by rw[hc];simp)] at hs;refine aa (z:=true) ?_;conv=>whnf
  have jM:∀bb,cX cs now un x=bb→Q (.bool bb) h:=fun bb hb=>hb▸hQ h cT;have Fb:(ai (pts cs))[0+j*3+2]?=some (.fz cs[j].k (dI cs[j].ts)):=by rw[Nat.zero_add];exact CM hj (f:=2) (by omega)
  refine⟨_,bA gs rfl,?_⟩;conv=>whnf
  refine br (fun hc=>?_) (fun hc=>?_)<;>(try rw[hc])<;>(conv=>whnf)
  ·have c1:=hc;refine⟨_,bA gs rfl,?_⟩;conv=>whnf
   refine⟨_,bA r1.st rfl,?_⟩;conv=>whnf
   refine⟨_,bA gs rfl,?_⟩;conv=>whnf
   rw[Zc];refine⟨_,gI hj,?_⟩;conv=>whnf
   refine⟨_,bA r1.cf Fb,?_⟩;conv=>whnf
   rw[bM];refine jM _ (by rw[hs,c1,Bool.true_or,Bool.true_and])
  ·have c1:=hc;refine⟨_,bA gs rfl,?_⟩;conv=>whnf
   refine br (fun hc=>?_) (fun hc=>?_)<;>(try rw[hc])<;>(conv=>whnf)
   ·have c2:=hc;refine⟨_,bA gs rfl,?_⟩;conv=>whnf
    refine br (fun hc=>?_) (fun hc=>?_)<;>(try rw[hc])<;>(conv=>whnf)
    ·have c3:=hc;refine⟨_,bA gs rfl,?_⟩;conv=>whnf
     refine⟨_,bA r1.st rfl,?_⟩;conv=>whnf
     refine⟨_,bA gs rfl,?_⟩;conv=>whnf
     rw[Zc];refine⟨_,gI hj,?_⟩;conv=>whnf
     refine⟨_,bA r1.cf Fb,?_⟩;conv=>whnf
     rw[bM];refine jM _ (by rw[hs,c1,c2,c3];rfl)
    ·exact jM _ (by rw[hs,c1,c2,hc];rfl)
   ·exact jM _ (by rw[hs,c1,hc];rfl)
end Ir
end Go.Proofs.Ytepdklcpagielaa
set_option maxRecDepth 100000
set_option linter.unusedSimpArgs false
set_option linter.unusedVariables false
namespace Go.Proofs.Ytepdklcpagielaa
open Go Ads
namespace Ir
def jb(j:Jb):AV:=.agg (I3 j)
def Gb(l:List Jb):List AV:=l.map jb
theorem um(l:List Jb):bL (Gb l)=true:=pZ (enc:=jb) (fun _=>rfl) l
theorem xZ(l:List Jb):(Gb l).length=l.length:=List.length_map ..
theorem F7{l:List Jb}{j k:Nat}(hj:j<l.length):pV (.aE 4) [.fz k (Gb l),.int .i64 (j:Nat)]=some (.fp (jb l[j]).cells 0):=vf (enc:=jb) hj rfl
theorem S1{F:Nat}{aN:List AV}{p:Jb→Bool}(k:Nat)(l:List Jb)(hl:l.length<2^62)(hcap:bL aN=true)(hp:∀m,m∈l→PC fs ms F (jb m::aN) (.bool (p m))):
  ∃n:Int,PC fs ms 111 [.fz k (Gb l),.func (.func F) [] aN] (.int .i64 n)∧decide (n≥0)=l.any p:=by
 by_cases ha:l.any p=true
 ·obtain⟨j,hj,h1,h2⟩:=ng (l:=l) (p:=fun m=>p m=true) (by simpa using ha);refine⟨(j:Nat),?_,by rw[ha];simp⟩;refine aX (by simp[bL,AV.cl,um,hcap]) rfl ?_;refine aC (af:=J7) false rfl (Nat.le_of_ble_eq_true rfl) ?_;generalize hQ:(fun(v:AV) (_:Heap)=>v=.int .i64 (j:Nat))=Q;conv=>whnf
  refine ei 5 [(0,.fz k (Gb l)),(1,.func (.func F) [] aN),(7,.int .i64 (Gb l).length),(8,.int .i64 ((0:Nat):Int))] (by repeat' (first|exact trivial|refine bI rfl (by omega) ?_|refine bg rfl (by omega) ?_|refine aR rfl (by omega) ?_|refine aJ rfl (by first|rfl|simp[bL,AV.cl,aS,um,hcap]) ?_|refine aJ (ay (by omega)) rfl ?_)) ?_;refine fe 5 j (fun _=>True) (fun i=>[(0,.fz k (Gb l)),(1,.func (.func F) [] aN),(7,.int .i64 (Gb l).length),(8,.int .i64 (i:Nat))]) ?_ ?_ trivial
  ·intro i hi _;conv=>whnf
   refine br (fun hc=>?_) (fun hc=>?_)<;>(try rw[hc])<;>(conv=>whnf)
   ·refine⟨_,F7 (by omega),?_⟩;conv=>whnf
    refine au (hp _ (List.getElem_mem _)) ?_;conv=>whnf
    refine br (fun hc=>?_) (fun hc=>?_)<;>(try rw[hc])<;>(conv=>whnf)
    ·exact absurd hc (h2 i (by omega) hi)
    ·refine⟨trivial,⟨_,rfl,.cl (by simp[AV.cl,um])⟩,⟨_,rfl,.cl (by simp[AV.cl,bL,hcap])⟩,⟨_,rfl,.cl rfl⟩,⟨_,ay (by omega),.cl rfl⟩,trivial⟩
   ·exfalso;have:=of_decide_eq_false hc;rw[xZ] at this;omega
  ·intro _;conv=>whnf
   refine br (fun hc=>?_) (fun hc=>?_)<;>(try rw[hc])<;>(conv=>whnf)
   ·refine⟨_,F7 hj,?_⟩;conv=>whnf
    refine au (hp _ (List.getElem_mem _)) ?_;conv=>whnf
    refine br (fun hc=>?_) (fun hc=>?_)<;>(try rw[hc])<;>(conv=>whnf)
    ·subst hQ;rfl
    ·rw[h1] at hc;simp at hc
   ·exfalso;have:=of_decide_eq_false hc;rw[xZ] at this;omega
 ·have hn:∀m,m∈l→p m=false:=by
   intro m hm;rw[Bool.eq_false_iff];intro h;exact ha (List.any_eq_true.2 ⟨m,hm,h⟩)
  refine⟨-1,?_,by rw[Bool.eq_false_iff.2 ha];decide⟩;refine aX (by simp[bL,AV.cl,um,hcap]) rfl ?_;refine aC (af:=J7) false rfl (Nat.le_of_ble_eq_true rfl) ?_;generalize hQ:(fun(v:AV) (_:Heap)=>v=.int .i64 (-1))=Q;conv=>whnf
  refine ei 5 [(0,.fz k (Gb l)),(1,.func (.func F) [] aN),(7,.int .i64 (Gb l).length),(8,.int .i64 ((0:Nat):Int))] (by repeat' (first|exact trivial|refine bI rfl (by omega) ?_|refine bg rfl (by omega) ?_|refine aR rfl (by omega) ?_|refine aJ rfl (by first|rfl|simp[bL,AV.cl,aS,um,hcap]) ?_|refine aJ (ay (by omega)) rfl ?_)) ?_;refine fe 5 l.length (fun _=>True) (fun i=>[(0,.fz k (Gb l)),(1,.func (.func F) [] aN),(7,.int .i64 (Gb l).length),(8,.int .i64 (i:Nat))]) ?_ ?_ trivial
  ·intro i hi _;conv=>whnf
   refine br (fun hc=>?_) (fun hc=>?_)<;>(try rw[hc])<;>(conv=>whnf)
   ·refine⟨_,F7 (by omega),?_⟩;conv=>whnf
    refine au (hp _ (List.getElem_mem _)) ?_;conv=>whnf
    refine br (fun hc=>?_) (fun hc=>?_)<;>(try rw[hc])<;>(conv=>whnf)
    ·rw[hn _ (List.getElem_mem hi)] at hc;simp at hc
    ·refine⟨trivial,⟨_,rfl,.cl (by simp[AV.cl,um])⟩,⟨_,rfl,.cl (by simp[AV.cl,bL,hcap])⟩,⟨_,rfl,.cl rfl⟩,⟨_,ay (by omega),.cl rfl⟩,trivial⟩
   ·exfalso;have:=of_decide_eq_false hc;rw[xZ] at this;omega
  ·intro _;conv=>whnf
   refine br (fun hc=>?_) (fun hc=>?_)<;>(try rw[hc])<;>(conv=>whnf)
   ·exfalso;have:=of_decide_eq_true hc;rw[xZ] at this;omega
   ·subst hQ;rfl
theorem UY{F:Nat}{aN:List AV}{p:Jb→Bool}(k:Nat)(l:List Jb)(hl:l.length<2^62)(hcap:bL aN=true)(hp:∀m,m∈l→PC fs ms F (jb m::aN) (.bool (p m))):
  PC fs ms 103 [.fz k (Gb l),.func (.func F) [] aN] (.bool (l.any p)):=by
 obtain⟨n,c1,c2⟩:=S1 k l hl hcap hp;refine aX (by simp[bL,AV.cl,um,hcap]) rfl ?_;refine aC (af:=NI) false rfl (Nat.le_of_ble_eq_true rfl) ?_;generalize hQ:(fun(v:AV) (_:Heap)=>v=.bool (l.any p))=Q;conv=>whnf
 refine au c1 ?_;conv=>whnf
 subst hQ;exact congrArg AV.bool c2
theorem Ww(j:Jb):PC fs ms 104 [jb j] (.bool j.is):=by
 refine aX rfl rfl ?_;refine aC (af:=NJ) false rfl (Nat.le_of_ble_eq_true rfl) ?_;generalize hQ:(fun(v:AV) (_:Heap)=>v=.bool j.is)=Q;conv=>whnf
 subst hQ;rfl
def Pr.some(p:Pr):Bool:=p.j0.is||(p.j1.is||(p.j2.is||p.j3.is))
theorem Qo(p:Pr):PC fs ms 103 [.fz 0 (Gb [p.j0,p.j1,p.j2,p.j3]),.func (.func 104) [] []] (.bool p.some):=by
 have:=UY (F:=104) (aN:=[]) (p:=fun j=>j.is) 0 [p.j0,p.j1,p.j2,p.j3] (by simp) rfl (fun m _=>Ww m);have h:[p.j0,p.j1,p.j2,p.j3].any (fun j=>j.is)=p.some:=by simp[Pr.some]
 rw[h] at this;exact this
theorem LY{h:Heap}{b C:Nat}{X:AV}{tl:List AV}{cs:List Pt}{ps:List Pr}(r:RS h b C X tl cs ps){i o:Nat}(hi:i<ps.length)(ho:o=i*23+7){op:Bool}:jo (fun _=>True) h (.sl b o 4 4 op) (.fz 0 (Gb [ps[i].j0,ps[i].j1,ps[i].j2,ps[i].j3])):=by
 refine .sl (s:=4) trivial r.st rfl rfl ?_ (Nat.le_refl _) (by omega) (fun h=>by omega) (fun h=>by omega) ?_
 ·rw[List.length_cons,List.length_cons,List.length_append,qt];show o+4*4≤_;omega
 ·intro k x f c y hx hc hy;have hk:k<4:=(List.getElem?_eq_some_iff.1 hx).1;have Pj:x.cells.length=4:=by
   match k,hk,hx with
   |0,_,hx=>cases hx;rfl
   |1,_,hx=>cases hx;rfl
   |2,_,hx=>cases hx;rfl
   |3,_,hx=>cases hx;rfl
  have hf:f<4:=by have:=(List.getElem?_eq_some_iff.1 hc).1;omega
  have fh:(dG ps[i])[5+k*4+f]?=some c:=by
   match k,hk,hx,f,hf,hc with
   |0,_,hx,0,_,hc=>cases hx;exact hc
   |0,_,hx,1,_,hc=>cases hx;exact hc
   |0,_,hx,2,_,hc=>cases hx;exact hc
   |0,_,hx,3,_,hc=>cases hx;exact hc
   |1,_,hx,0,_,hc=>cases hx;exact hc
   |1,_,hx,1,_,hc=>cases hx;exact hc
   |1,_,hx,2,_,hc=>cases hx;exact hc
   |1,_,hx,3,_,hc=>cases hx;exact hc
   |2,_,hx,0,_,hc=>cases hx;exact hc
   |2,_,hx,1,_,hc=>cases hx;exact hc
   |2,_,hx,2,_,hc=>cases hx;exact hc
   |2,_,hx,3,_,hc=>cases hx;exact hc
   |3,_,hx,0,_,hc=>cases hx;exact hc
   |3,_,hx,1,_,hc=>cases hx;exact hc
   |3,_,hx,2,_,hc=>cases hx;exact hc
   |3,_,hx,3,_,hc=>cases hx;exact hc
  have:=r.at hi (f:=5+k*4+f) (by omega) (o:=o+(k*4+f)) (by omega) fh;rw[this] at hy;cases hy
  have jQ:bL (dG ps[i])=true:=rfl;exact .clean (fQ jQ fh)
def kK(p:Pr)(x:Nt):Bool:=
 if(x.k==7||x.k==8)=true then !p.some
 else if(x.k==2)=true then(x.e !=0||!(p.js x.t.toNat).is)
 else if(bQ x||x.t==-1)=true then true
 else(p.js x.t.toNat).is
theorem LW{p:Pr}{k:Nat}(hk:k<4):(dG p)[5+k*4+0]?=some (.bool (p.js k).is):=by
 match k,hk with
 |0,_=>rfl
 |1,_=>rfl
 |2,_=>rfl
 |3,_=>rfl
theorem GI{b o:Nat}:pV (.iY 4 4 false false false) [.ptr b o]=some (.sl b o 4 4 false):=rfl
theorem Qt{h0:Heap}{b C:Nat}{X:AV}{tl:List AV}{cs:List Pt}{ps:List Pr}(r:RS h0 b C X tl cs ps)(hb:b<h0.next)(hC:C<h0.next){i o:Nat}(hi:i<ps.length)(ho:o=i*23+2)(x:Nt)(ht:bQ x=false→x.t≠-1→0≤x.t∧x.t<4)(ht2:x.k=2→0≤x.t∧x.t<4){Q:AV→Heap→Prop}
  (hQ:∀h',Fr h0 h' []→Q (.bool (kK ps[i] x)) h'):VD fs ms 87 [.ptr b o,nt x] h0 Q:=by
 refine bw (af:=Ys) rfl (Nat.le_of_ble_eq_true rfl) ?_;conv=>whnf
 refine aj true ?_;conv=>whnf
 have gs:(h0.new (.cells (nt x).cells true 0)).get h0.next=some (.cells (nt x).cells true 0):=an;have cT:Fr h0 (h0.new (.cells (nt x).cells true 0)) []:=(Fr.refl h0 []).new;have r1:=r.keep cT hb hC;generalize h0.new (.cells (nt x).cells true 0)=h1 at*;have hq:=hQ h1 cT;clear hQ;refine az (aL ?_);refine az (VC.mono (Q:=fun y e h=>y=.normal∧h=h1∧aP e [(0,.ptr b o),(3,.ptr h0.next 0),(5,.bool (x.k==7||x.k==8))]) ?_ ?_)
 ·refine aa (z:=true) ?_;conv=>whnf
  refine⟨_,bA gs rfl,?_⟩;conv=>whnf
  refine br (fun hc=>?_) (fun hc=>?_)<;>(try rw[hc])<;>(conv=>whnf)
  ·exact⟨rfl,rfl,rfl,rfl,by first|rfl|(rw[hc];rfl),trivial⟩
  ·refine⟨_,bA gs rfl,?_⟩;conv=>whnf
   exact⟨rfl,rfl,rfl,rfl,by first|rfl|(rw[hc];rfl),trivial⟩
 rintro y e h ⟨rfl,rfl,he⟩;show VC fs ms _ _ _ _ _ _;refine ak 4 _ he ?_;clear he;cases h78:(x.k==7||x.k==8) with
 |true=>
  refine aa (z:=true) ?_;conv=>whnf
  refine⟨_,GI,?_⟩;conv=>whnf
  refine ji (Qo ps[i]) rfl (.cons (LY r1 hi (by omega)) (.cons (.clean rfl) .nil)) ?_;conv=>whnf
  rw[kK,if_pos h78] at hq;exact hq
 |false=>
  rw[kK,if_neg (by rw[h78];simp)] at hq;refine b9 ?_;conv=>whnf
  refine aj true ?_;conv=>whnf
  refine⟨_,bA gs rfl,?_⟩;conv=>whnf
  cases h2:(x.k==2) with
  |true=>
   rw[if_pos h2] at hq;obtain⟨t0,t1⟩:=ht2 (by simpa using h2);have Pc:x.t=((x.t.toNat:Nat):Int):=by omega
   have Hu:x.t.toNat<4:=by omega
   generalize x.t.toNat=jn at*;refine aa (z:=true) ?_;conv=>whnf
   refine⟨_,bA gs rfl,?_⟩;conv=>whnf
   refine br (fun hc=>?_) (fun hc=>?_)<;>(try rw[hc])<;>(conv=>whnf)
   ·rw[hc,Bool.true_or] at hq;exact hq
   ·refine⟨_,bA gs rfl,?_⟩;conv=>whnf
    rw[Pc];refine⟨_,dr Hu,?_⟩;conv=>whnf
    refine⟨_,r1.ld hi (f:=5+jn*4+0) (by omega) (by omega) (LW Hu),?_⟩;conv=>whnf
    rw[hc,Bool.false_or] at hq;exact hq
  |false=>
   rw[if_neg (by rw[h2];simp)] at hq;refine aa (z:=true) ?_;conv=>whnf
   refine⟨nt x,tU (n:=7) gs (Nat.le_refl _),?_⟩;conv=>whnf
   refine au (Da x) ?_;conv=>whnf
   refine br (fun hc=>?_) (fun hc=>?_)<;>(try rw[hc])<;>(conv=>whnf)
   ·rw[hc,Bool.true_or,if_pos rfl] at hq;exact hq
   ·have hw:=hc;refine⟨_,bA gs rfl,?_⟩;conv=>whnf
    refine br (fun hc=>?_) (fun hc=>?_)<;>(try rw[hc])<;>(conv=>whnf)
    ·rw[hc,Bool.or_true,if_pos rfl] at hq;exact hq
    ·rw[hw,hc,Bool.or_self,if_neg (by simp)] at hq;obtain⟨t0,t1⟩:=ht hw (by simpa using hc);have Pc:x.t=((x.t.toNat:Nat):Int):=by omega
     have Hu:x.t.toNat<4:=by omega
     generalize x.t.toNat=jn at*;refine aa (z:=true) ?_;conv=>whnf
     refine⟨_,bA gs rfl,?_⟩;conv=>whnf
     rw[Pc];refine⟨_,dr Hu,?_⟩;conv=>whnf
     refine⟨_,r1.ld hi (f:=5+jn*4+0) (by omega) (by omega) (LW Hu),?_⟩;conv=>whnf
     exact hq
end Ir
end Go.Proofs.Ytepdklcpagielaa
set_option maxRecDepth 100000
set_option linter.unusedSimpArgs false
set_option linter.unusedVariables false
namespace Go.Proofs.Ytepdklcpagielaa
open Go Ads
namespace Ir
theorem drop_cons{α:Type}{l:List α}{o:Nat}{a:α}(h:l[o]?=some a):l.drop o=a::l.drop (o+1):=by
 obtain⟨h1,h2⟩:=List.getElem?_eq_some_iff.1 h;rw[List.drop_eq_getElem_cons h1,h2]
theorem y7{p:Pr}{k f:Nat}(hk:k<4)(hf:f<4):(dG p)[5+k*4+f]?=(I3 (p.js k))[f]?:=by
 match k,hk,f,hf with
 |0,_,0,_=>rfl
 |0,_,1,_=>rfl
 |0,_,2,_=>rfl
 |0,_,3,_=>rfl
 |1,_,0,_=>rfl
 |1,_,1,_=>rfl
 |1,_,2,_=>rfl
 |1,_,3,_=>rfl
 |2,_,0,_=>rfl
 |2,_,1,_=>rfl
 |2,_,2,_=>rfl
 |2,_,3,_=>rfl
 |3,_,0,_=>rfl
 |3,_,1,_=>rfl
 |3,_,2,_=>rfl
 |3,_,3,_=>rfl
section
variable {h:Heap} {b C:Nat} {X:AV} {tl:List AV} {cs:List Pt} {ps:List Pr}
theorem RS.js{o i k:Nat}(r:RS h b C X tl cs ps)(hi:i<ps.length)(hk:k<4)(ho:o=i*23+7+k*4):rV (.bn 4) [.ptr b o] h=some (.agg (I3 (ps[i].js k))):=by
 have g:=fun f (hf:f<4)=>r.at hi (f:=5+k*4+f) (v:=((I3 (ps[i].js k))[f]?).getD .undef) (o:=o+f) (by omega) (by omega) (by
  rw[y7 hk hf]
  match f,hf with
  |0,_=>rfl
  |1,_=>rfl
  |2,_=>rfl
  |3,_=>rfl)
 have hl:o+4≤((.sl C 0 cs.length cs.length true:AV)::X::(th ps++tl)).length:=by
  rw[List.length_cons,List.length_cons,List.length_append,qt];omega
 rw[tU r.st hl,drop_cons (o:=o) (g 0 (by omega)),drop_cons (o:=o+1) (g 1 (by omega)),drop_cons (o:=o+1+1) (g 2 (by omega)),drop_cons (o:=o+1+1+1) (g 3 (by omega))];rfl
end
def eu(p:Pr)(x:Nt)(t:Tk):Int:=
 if(x.k==2)=true then(if(x.e !=0||decide (x.a≥(p.js x.t.toNat).nx))=true then 0 else 6)
 else if(x.k==4||decide (x.a<IntKind.i64.wrap ((p.js x.t.toNat).tm+t.d)))=false then 7
 else if(x.k !=1||decide ((p.js x.t.toNat).bf<t.w))=false then 7 else 0
theorem M6{h0:Heap}{b C:Nat}{X:AV}{tl:List AV}{cs:List Pt}{ps:List Pr}(r:RS h0 b C X tl cs ps)(hb:b<h0.next)(hC:C<h0.next){i o:Nat}(hi:i<ps.length)(ho:o=i*23+2)(x:Nt)(t:Tk)(ht:0≤x.t∧x.t<4){Q R:AV→Heap→Prop}
  (hQ:eu ps[i] x t=0→∀h',Fr h0 h' []→Q (.cQ []) h')
  (hR:∀rule,eu ps[i] x t=rule→rule≠0→∀h',Fr h0 h' []→R (.iface 115 (.int .i64 rule)) h'):VX fs ms 90 [.ptr b o,nt x,tk t] h0 Q R:=by
 have Pc:x.t=((x.t.toNat:Nat):Int):=by omega
 have Hu:x.t.toNat<4:=by omega
 unfold eu at hQ hR;generalize hjn:x.t.toNat=jn at*;have IX:=fun{h1:Heap} (r1:RS h1 b C X tl cs ps)=>r1.js hi Hu (o:=o+5+jn*4) (by omega);generalize ps[i].js jn=j at*;refine sA (af:=Yv) rfl (Nat.le_of_ble_eq_true rfl) ?_;conv=>whnf
 refine aj true ?_;conv=>whnf
 have g1:((h0.new (.cells (nt x).cells true 0)).new (.cells (tk t).cells true 0)).get h0.next=some (.cells (nt x).cells true 0):=(aO (Nat.lt_succ_self _)).trans an;have g2:((h0.new (.cells (nt x).cells true 0)).new (.cells (tk t).cells true 0)).get (h0.new (.cells (nt x).cells true 0)).next=some (.cells (tk t).cells true 0):=an
 have cT:Fr h0 ((h0.new (.cells (nt x).cells true 0)).new (.cells (tk t).cells true 0)) []:=((Fr.refl h0 []).new).new;have n1:h0.next<((h0.new (.cells (nt x).cells true 0)).new (.cells (tk t).cells true 0)).next:=by show h0.next<h0.next+1+1;omega
 have n2:(h0.new (.cells (nt x).cells true 0)).next<((h0.new (.cells (nt x).cells true 0)).new (.cells (tk t).cells true 0)).next:=by show h0.next+1<h0.next+1+1;omega
 generalize(h0.new (.cells (nt x).cells true 0)).new (.cells (tk t).cells true 0)=h1 at*;generalize(h0.new (.cells (nt x).cells true 0)).next=p2 at*
 have r1:=r.keep cT hb hC;refine aj true ?_;conv=>whnf
 refine⟨_,bA g1 rfl,?_⟩;conv=>whnf
 rw[Pc];refine⟨_,dr Hu,?_⟩;conv=>whnf
 refine⟨_,IX r1,?_⟩;conv=>whnf
 refine aT (cD (n:=4) (v:=.agg (I3 j)) an rfl (Nat.le_refl _) rfl) fun h2 e2=>?_;conv=>whnf
 have k1:h2.get h0.next=some (.cells (nt x).cells true 0):=by rw[e2,bB (by omega),aO n1];exact g1
 have k2:h2.get p2=some (.cells (tk t).cells true 0):=by rw[e2,bB (by omega),aO n2];exact g2
 have k3:h2.get h1.next=some (.cells (I3 j) true 0):=by rw[e2,aG];rfl
 have fq:Fr h0 h2 []:=by rw[e2];exact cT.trans (((Fr.refl h1 []).new (x:=_)).lD (Nat.le_refl _))
 clear e2 g1 g2 cT r1 IX;have hM:∀(ok:Bool) (rule:Int) (K R':AV→Heap→Prop),(ok=true→K (.cQ []) h2)→(ok=false→R' (.iface 115 (.int .i64 rule)) h2)→VX fs ms 84 [.bool ok,.int .i64 rule] h2 K R':=fun ok rule K R' hk hr=>qk hk hr;refine az (aj true ?_);conv=>whnf
 refine⟨_,bA k1 rfl,?_⟩;conv=>whnf
 refine b9 ?_;conv=>whnf
 refine br (fun hc=>?_) (fun hc=>?_)<;>(try rw[hc])<;>(conv=>whnf)
 ·rw[if_pos hc] at hQ;have hR6:∀ok:Bool,(x.e !=0||decide (x.a≥j.nx))=ok→ok=false→R (.iface 115 (.int .i64 6)) h2:=fun ok he hf=>hR 6 (by rw[if_pos hc,if_neg (by rw[he,hf];simp)]) (by decide) h2 fq;have hQ6:∀ok:Bool,(x.e !=0||decide (x.a≥j.nx))=ok→ok=true→Q (.cQ []) h2:=fun ok he hf=>hQ (by rw[if_pos (by rw[he,hf])]) h2 fq;clear hQ hR;refine az (jV (z:=true) rfl ?_);conv=>whnf
  refine⟨_,bA k1 rfl,?_⟩;conv=>whnf
  refine br (fun hc=>?_) (fun hc=>?_)<;>(try rw[hc])<;>(conv=>whnf)
  ·refine hM true 6 _ _ (fun ht=>?_) (fun hf=>by simp at hf);conv=>whnf
   refine aa (z:=true) ?_;conv=>whnf
   exact⟨_,rfl,hQ6 true (by rw[hc];rfl) rfl⟩
  ·have he:=hc;refine⟨_,bA k1 rfl,?_⟩;conv=>whnf
   refine⟨_,bA k3 rfl,?_⟩;conv=>whnf
   refine hM _ 6 _ _ (fun ht=>?_) (fun hf=>hR6 _ (by rw[he,Bool.false_or]) hf);conv=>whnf
   refine aa (z:=true) ?_;conv=>whnf
   exact⟨_,rfl,hQ6 true (by rw[he,Bool.false_or];exact ht) rfl⟩
 ·rw[if_neg (by rw[hc];simp)] at hQ;have Vp:(x.k==4||decide (x.a<IntKind.i64.wrap (j.tm+t.d)))=false→R (.iface 115 (.int .i64 7)) h2:=fun hf=>hR 7 (by rw[if_neg (by rw[hc];simp),if_pos hf]) (by decide) h2 fq;have hR8:(x.k==4||decide (x.a<IntKind.i64.wrap (j.tm+t.d)))=true→(x.k !=1||decide (j.bf<t.w))=false→R (.iface 115 (.int .i64 7)) h2:=fun ht hf=>hR 7 (by rw[if_neg (by rw[hc];simp),if_neg (by rw[ht];simp),if_pos hf]) (by decide) h2 fq;have hQ8:(x.k==4||decide (x.a<IntKind.i64.wrap (j.tm+t.d)))=true→(x.k !=1||decide (j.bf<t.w))=true→Q (.cQ []) h2:=fun ht hf=>hQ (by rw[if_neg (by rw[ht];simp),if_neg (by rw[hf];simp)]) h2 fq;clear hQ hR;refine aa (z:=true) ?_;conv=>whnf
  refine az (VC.mono (Q:=fun y e h=>(y=.normal∧(x.k==4||decide (x.a<IntKind.i64.wrap (j.tm+t.d)))=true∧h=h2∧aP e [(4,.ptr h0.next 0),(5,.ptr p2 0),(6,.ptr h1.next 0)])∨∃v,y=.panic v∧R v h) ?_ ?_)
  ·refine jV (z:=true) rfl ?_;conv=>whnf
   refine⟨_,bA k1 rfl,?_⟩;conv=>whnf
   refine br (fun hc=>?_) (fun hc=>?_)<;>(try rw[hc])<;>(conv=>whnf)
   ·refine hM true 7 _ _ (fun _=>?_) (fun hf=>by simp at hf);exact .inl ⟨rfl,by first|rfl|(rw[hc];rfl),rfl,rfl,rfl,rfl,trivial⟩
   ·have he:=hc;refine⟨_,bA k1 rfl,?_⟩;conv=>whnf
    refine⟨_,bA k3 rfl,?_⟩;conv=>whnf
    refine⟨_,bA k2 rfl,?_⟩;conv=>whnf
    refine hM _ 7 _ _ (fun ht=>?_) (fun hf=>?_)
    ·exact .inl ⟨rfl,by first|(rw[he,Bool.false_or];exact ht)|(rw[Bool.false_or];exact ht),rfl,rfl,rfl,rfl,trivial⟩
    ·exact .inr ⟨_,rfl,Vp (by rw[he,Bool.false_or];exact hf)⟩
  rintro y e h (⟨rfl,h4,rfl,ha⟩|⟨v,rfl,hr⟩)
  ·have hR9:=hR8 h4;have hQ9:=hQ8 h4;clear hR8 hQ8 Vp;show VC fs ms _ _ _ _ _ _;refine ak 4 _ ha ?_;refine jV (z:=true) rfl ?_;conv=>whnf
   refine⟨_,bA k1 rfl,?_⟩;conv=>whnf
   refine br (fun hc=>?_) (fun hc=>?_)<;>(try rw[hc])<;>(conv=>whnf)
   ·refine hM true 7 _ _ (fun _=>?_) (fun hf=>by simp at hf);exact⟨_,rfl,hQ9 (by rw[hc];rfl)⟩
   ·have he:=hc;refine⟨_,bA k3 rfl,?_⟩;conv=>whnf
    refine⟨_,bA k2 rfl,?_⟩;conv=>whnf
    refine hM _ 7 _ _ (fun ht=>?_) (fun hf=>hR9 (by rw[he,Bool.false_or];exact hf));exact⟨_,rfl,hQ9 (by rw[he,Bool.false_or];exact ht)⟩
  ·exact hr
end Ir
end Go.Proofs.Ytepdklcpagielaa
set_option maxRecDepth 100000
set_option linter.unusedSimpArgs false
set_option linter.unusedVariables false
namespace Go.Proofs.Ytepdklcpagielaa
open Go Ads
namespace Ir
def qL(cs:List Pt)(i:Nat)(t:Int):Int:=match cs[i]? with
 |some c=>match c.ts[t.toNat]? with
  |some t=>t.c
  |none=>0
 |none=>0
def G1(cs:List Pt)(ps:List Pr):Prop:=∀(i:Nat) (hc:i<cs.length) (hp:i<ps.length),ps[i].has=true→0≤ps[i].task∧ps[i].task<(cs[i].ts.length:Nat)
def iZ(cs:List Pt)(own:Int)(g:Int)(i:Nat)(p:Pr):Bool:=(((i:Nat):Int)!=own&&p.has)&&(qL cs i p.task==g)
def fo(cs:List Pt)(ps:List Pr)(own g:Int):Nat→Bool
 |0=>false
 |i+1=>fo cs ps own g i||(match ps[i]? with|some p=>iZ cs own g i p|none=>false)
def eS(cs:List Pt)(ps:List Pr)(p:Pr)(x:Nt):Bool:=
 if(x.k==1)=true then !p.has||p.task==x.t
 else if(x.k !=5||x.e !=0)=true then true
 else if(x.n==5)=true then p.has&&p.task==x.t
 else if(x.n !=4)=true then true
 else if fo cs ps x.p (qL cs x.p.toNat x.t) cs.length=true then false
 else !p.has&&decide (qL cs x.p.toNat x.t>0)
theorem xY{cs:List Pt}{i:Nat}(hi:i<cs.length){t:Int}(h0:0≤t)(h1:t<(cs[i].ts.length:Nat)):∃JO:Tk,pV (.aE 8) [.fz cs[i].k (dI cs[i].ts),.int .i64 t]=some (.fp (tk JO).cells 0)∧qL cs i t=JO.c:=by
 have hj:t.toNat<cs[i].ts.length:=by omega
 refine⟨cs[i].ts[t.toNat],?_,?_⟩
 ·have:=iP (k:=cs[i].k) hj
  rwa [show((t.toNat:Nat):Int)=t by omega] at this
 ·simp[qL,List.getElem?_eq_getElem hi,List.getElem?_eq_getElem hj]
theorem sv{cs:List Pt}{ps:List Pr}{own g:Int}{j:Nat}(h:fo cs ps own g j=true):∀k,fo cs ps own g (j+k)=true
 |0=>h
 |k+1=>by
  show(fo cs ps own g (j+k)||_)=true;rw[sv h k];rfl
theorem Qq{h0:Heap}{b C pn:Nat}{X:AV}{tl:List AV}{cs:List Pt}{ps:List Pr}(r:RS h0 b C X tl cs ps)(hb:b<h0.next)(hC:C<h0.next)(hwf:G1 cs ps){x:Nt}{g:Int}{p5:AV}(Zd:pn<h0.next)(gs:h0.get pn=some (.cells (nt x).cells true 0)){B:Nat}{Q:AX→Env→Heap→Prop}
  (hF:fo cs ps x.p g cs.length=false→∀e' h',Fr h0 h' []→aP e' [(5,p5),(6,.int .i64 g)]→Q (.exit 1) e' h')
  (hT:fo cs ps x.p g cs.length=true→∀e' h',Fr h0 h' []→Tr.get e' 4=some (.bool false)→Q .ret e' h'):
  ∀(m j:Nat) (h:Heap) (env:Env),cs.length-j=m→j≤cs.length→fo cs ps x.p g j=false→Fr h0 h []→aP env [(0,.ptr b 0),(3,.ptr pn 0),(5,p5),(6,.int .i64 g),(79,.sl b 2 cs.length 4 false),(80,.int .i64 ((cs.length:Nat):Int)),(81,.int .i64 ((j:Nat):Int))]→
  VC fs ms B false (.loop ig) env h Q:=by
 intro m;induction m using Nat.strongRecOn with
 |ind m ih=>
 intro j h env hm hj hi fr cH;have hle:=r.le;have hlen:=r.len;refine ak 7 _ cH ?_;refine bJ (aj true ?_);conv=>whnf
 refine aj true ?_;conv=>whnf
 refine br (fun hc=>?_) (fun hc=>?_)<;>(try rw[hc])<;>(conv=>whnf)
 ·have hlt:j<cs.length:=by have:=of_decide_eq_true hc;omega
  have qT:j<ps.length:=by omega
  have rh:=r.keep fr hb hC;have LI:=rh.whole qT (o:=2+j*23) (by omega);refine az (aL ?_);refine aj true ?_;conv=>whnf
  refine⟨_,gI hlt,?_⟩;conv=>whnf
  refine⟨_,LI,?_⟩;conv=>whnf
  refine aT (cD (n:=23) (v:=.agg (dG ps[j])) an rfl (Nat.le_refl _) rfl) fun h1 e1=>?_;conv=>whnf
  have gj:h1.get h.next=some (.cells (dG ps[j]) true 0):=by rw[e1,aG];rfl
  have cT:Fr h0 h1 []:=by rw[e1];exact fr.trans (((Fr.refl h []).new (x:=_)).lD (Nat.le_refl _))
  have gx:h1.get pn=some (.cells (nt x).cells true 0):=(cT.keep pn Zd (by simp)).trans gs;have r1:=r.keep cT hb hC;clear e1;have ir:fo cs ps x.p g (j+1)=iZ cs x.p g j ps[j]:=by
   show(fo cs ps x.p g j||(match ps[j]? with|some p=>iZ cs x.p g j p|none=>false))=_;rw[hi,List.getElem?_eq_getElem qT,Bool.false_or]
  have hno:iZ cs x.p g j ps[j]=false→∀e' h',Fr h0 h' []→aP e' [(0,.ptr b 0),(3,.ptr pn 0),(5,p5),(6,.int .i64 g),(79,.sl b 2 cs.length 4 false),(80,.int .i64 ((cs.length:Nat):Int)),(81,.int .i64 (((j+1:Nat):Nat):Int))]→VC fs ms B false (.loop ig) e' h' Q:=fun hf e' h' fr' he=>
   ih (cs.length-(j+1)) (by omega) (j+1) h' e' rfl (by omega) (by rw[ir];exact hf) fr' he
  have hyes:iZ cs x.p g j ps[j]=true→∀e' h',Fr h0 h' []→Tr.get e' 4=some (.bool false)→Q .ret e' h':=fun hf=>hT (by
   have:=sv (ir.trans hf) (cs.length-(j+1))
   rwa [show j+1+(cs.length-(j+1))=cs.length by omega] at this)
  have hw:=hwf j hlt qT;clear ih hF hT ir;refine aj true ?_;conv=>whnf
  refine⟨_,bA gx rfl,?_⟩;conv=>whnf
  refine br (fun hc=>?_) (fun hc=>?_)<;>(try rw[hc])<;>(conv=>whnf)
  ·have c1:=hc;refine⟨_,bA gj rfl,?_⟩;conv=>whnf
   refine br (fun hc=>?_) (fun hc=>?_)<;>(try rw[hc])<;>(conv=>whnf)
   ·have c2:=hc;obtain⟨w0,w1⟩:=hw c2;obtain⟨JO,t1,t2⟩:=xY hlt w0 w1;refine⟨_,bA r1.st rfl,?_⟩;conv=>whnf
    refine⟨_,gI hlt,?_⟩;conv=>whnf
    refine⟨_,bA r1.cf (by rw[Nat.zero_add];exact CM hlt (f:=2) (by omega)),?_⟩;conv=>whnf
    refine⟨_,bA gj rfl,?_⟩;conv=>whnf
    refine⟨_,t1,?_⟩;conv=>whnf
    refine⟨.int .i64 JO.c,rfl,?_⟩;conv=>whnf
    refine aa (z:=true) ?_;conv=>whnf
    refine br (fun hc=>?_) (fun hc=>?_)<;>(try rw[hc])<;>(conv=>whnf)
    ·exact hyes (by rw[iZ,c1,c2,t2,hc];rfl) _ _ cT rfl
    ·refine aa (z:=true) ?_;conv=>whnf
     exact hno (by rw[iZ,t2,hc,Bool.and_false]) _ _ cT ⟨rfl,rfl,rfl,rfl,rfl,rfl,ay (by omega),trivial⟩
   ·refine aa (z:=true) ?_;conv=>whnf
    refine aa (z:=true) ?_;conv=>whnf
    exact hno (by rw[iZ,hc,Bool.and_false,Bool.false_and]) _ _ cT ⟨rfl,rfl,rfl,rfl,rfl,rfl,ay (by omega),trivial⟩
  ·refine aa (z:=true) ?_;conv=>whnf
   refine aa (z:=true) ?_;conv=>whnf
   exact hno (by rw[iZ,hc,Bool.false_and,Bool.false_and]) _ _ cT ⟨rfl,rfl,rfl,rfl,rfl,rfl,ay (by omega),trivial⟩
 ·have hge:j=cs.length:=by have:=of_decide_eq_false hc;omega
  subst hge;exact hF hi _ _ fr ⟨rfl,rfl,trivial⟩
theorem MT{h0:Heap}{b C:Nat}{X:AV}{tl:List AV}{cs:List Pt}{ps:List Pr}(r:RS h0 b C X tl cs ps)(hb:b<h0.next)(hC:C<h0.next)(hwf:G1 cs ps){i:Nat}(hi:i<cs.length)(x:Nt)(oy:x.p=((i:Nat):Int))(ht:x.k=5→0≤x.t∧x.t<(cs[i].ts.length:Nat)){Q:AV→Heap→Prop}
  (hQ:∀h',Fr h0 h' []→Q (.bool (eS cs ps (ps[i]'(by have:=r.le;have:=r.len;omega)) x)) h'):VD fs ms 91 [.ptr b 0,nt x] h0 Q:=by
 have oe:i<ps.length:=by have:=r.le;have:=r.len;omega
 have hlen:=r.len;refine bw (af:=Yw) rfl (Nat.le_of_ble_eq_true rfl) ?_;conv=>whnf
 refine aj true ?_;conv=>whnf
 have gs:(h0.new (.cells (nt x).cells true 0)).get h0.next=some (.cells (nt x).cells true 0):=an;have cT:Fr h0 (h0.new (.cells (nt x).cells true 0)) []:=(Fr.refl h0 []).new;have n1:h0.next<(h0.new (.cells (nt x).cells true 0)).next:=Nat.lt_succ_self _
 have r1:=r.keep cT hb hC;generalize h0.new (.cells (nt x).cells true 0)=h1 at*;generalize hp:ps[i]=p at*;refine aj true ?_;conv=>whnf
 refine⟨_,bA gs rfl,?_⟩;conv=>whnf
 rw[oy];refine⟨_,dr (by omega),?_⟩;conv=>whnf
 have l21:rV .bC [.ptr b (0+2+i*23+21)] h1=some (.bool p.has):=r1.ld oe (f:=21) (by omega) (by omega) (by rw[hp];rfl);have l22:rV .bC [.ptr b (0+2+i*23+22)] h1=some (.int .i64 p.task):=r1.ld oe (f:=22) (by omega) (by omega) (by rw[hp];rfl);have hq:=hQ h1 cT;refine az (aL ?_);refine aj true ?_;conv=>whnf
 refine⟨_,bA gs rfl,?_⟩;conv=>whnf
 cases k1:(x.k==1) with
 |true=>
  rw[eS,if_pos k1] at hq;refine aa (z:=true) ?_;conv=>whnf
  refine⟨_,l21,?_⟩;conv=>whnf
  refine br (fun hc=>?_) (fun hc=>?_)<;>(try rw[hc])<;>(conv=>whnf)
  ·rw[hc,Bool.true_or] at hq;exact hq
  ·refine⟨_,l22,?_⟩;conv=>whnf
   refine⟨_,bA gs rfl,?_⟩;conv=>whnf
   rw[hc,Bool.false_or] at hq;exact hq
 |false=>
  rw[eS,if_neg (by rw[k1];simp)] at hq;refine b9 ?_;conv=>whnf
  refine az (VC.mono (Q:=fun y e h=>y=.normal∧h=h1∧aP e [(0,.ptr b 0),(3,.ptr h0.next 0),(5,.ptr b (0+2+i*23)),(33,.bool (x.k !=5||x.e !=0))]) ?_ ?_)
  ·refine aa (z:=true) ?_;conv=>whnf
   refine⟨_,bA gs rfl,?_⟩;conv=>whnf
   refine br (fun hc=>?_) (fun hc=>?_)<;>(try rw[hc])<;>(conv=>whnf)
   ·exact⟨rfl,rfl,rfl,rfl,rfl,by first|rfl|(rw[hc];rfl),trivial⟩
   ·refine⟨_,bA gs rfl,?_⟩;conv=>whnf
    exact⟨rfl,rfl,rfl,rfl,rfl,by first|rfl|(rw[hc];rfl),trivial⟩
  rintro y e h ⟨rfl,rfl,he⟩;show VC fs ms _ _ _ _ _ _;refine ak 6 _ he ?_;clear he;cases k5:(x.k !=5||x.e !=0) with
  |true=>
   rw[if_pos k5] at hq;refine aa (z:=true) ?_;conv=>whnf
   exact hq
  |false=>
   rw[if_neg (by rw[k5];simp)] at hq;refine b9 ?_;conv=>whnf
   refine aj true ?_;conv=>whnf
   refine⟨_,bA gs rfl,?_⟩;conv=>whnf
   cases kn:(x.n==5) with
   |true=>
    rw[if_pos kn] at hq;refine aa (z:=true) ?_;conv=>whnf
    refine⟨_,l21,?_⟩;conv=>whnf
    refine br (fun hc=>?_) (fun hc=>?_)<;>(try rw[hc])<;>(conv=>whnf)
    ·refine⟨_,l22,?_⟩;conv=>whnf
     refine⟨_,bA gs rfl,?_⟩;conv=>whnf
     rw[hc,Bool.true_and] at hq;exact hq
    ·rw[hc,Bool.false_and] at hq;exact hq
   |false=>
    rw[if_neg (by rw[kn];simp)] at hq;refine b9 ?_;conv=>whnf
    refine aj true ?_;conv=>whnf
    refine⟨_,bA gs rfl,?_⟩;conv=>whnf
    cases k4:(x.n !=4) with
    |true=>
     rw[if_pos k4] at hq;refine aa (z:=true) ?_;conv=>whnf
     exact hq
    |false=>
     rw[if_neg (by rw[k4];simp)] at hq;obtain⟨w0,w1⟩:=ht (by simp at k5;exact k5.1);obtain⟨JO,t1,t2⟩:=xY hi w0 w1;refine aa (z:=true) ?_;conv=>whnf
     refine aj true ?_;conv=>whnf
     refine⟨_,bA r1.st rfl,?_⟩;conv=>whnf
     refine⟨_,bA gs rfl,?_⟩;conv=>whnf
     rw[oy];refine⟨_,gI hi,?_⟩;conv=>whnf
     refine⟨_,bA r1.cf (by rw[Nat.zero_add];exact CM hi (f:=2) (by omega)),?_⟩;conv=>whnf
     refine⟨_,bA gs rfl,?_⟩;conv=>whnf
     refine⟨_,t1,?_⟩;conv=>whnf
     refine⟨.int .i64 JO.c,rfl,?_⟩;conv=>whnf
     rw[oy,Int.toNat_natCast,t2] at hq;clear hq;refine az (aj true ?_);conv=>whnf
     refine CB r1 ?_;conv=>whnf
     refine aL ?_;have hs:eS cs ps p x=if fo cs ps x.p JO.c cs.length=true then false else !p.has&&decide (JO.c>0):=by
      rw[eS,if_neg (by rw[k1];simp),if_neg (by rw[k5];simp),if_neg (by rw[kn];simp),if_neg (by rw[k4];simp),oy,Int.toNat_natCast,t2]
     refine Qq (x:=x) (g:=JO.c) (p5:=.ptr b (0+2+i*23)) (pn:=h0.next) r1 (Nat.lt_of_lt_of_le hb cT.next) (Nat.lt_of_lt_of_le hC cT.next) hwf n1 gs (fun hf e' h' fr' he=>?_) (fun hf e' h' fr' g4=>?_) cs.length 0 _ _ rfl (Nat.zero_le _) rfl (Fr.refl _ []) ⟨rfl,rfl,rfl,rfl,rfl,rfl,rfl,trivial⟩
     ·rw[if_neg (by rw[hf];simp)] at hs;have r2:=r1.keep fr' (Nat.lt_of_lt_of_le hb cT.next) (Nat.lt_of_lt_of_le hC cT.next);have l2:rV .bC [.ptr b (0+2+i*23+21)] h'=some (.bool p.has):=r2.ld oe (f:=21) (by omega) (by omega) (by rw[hp];rfl);have hq:=hQ h' (cT.trans fr');rw[hs] at hq;show VC fs ms _ _ _ _ _ _;refine ak 4 _ he (aa (z:=true) ?_);conv=>whnf
      refine⟨_,l2,?_⟩;conv=>whnf
      refine br (fun hc=>?_) (fun hc=>?_)<;>(try rw[hc])<;>(conv=>whnf)
      ·rw[hc,Bool.true_and] at hq;exact hq
      ·rw[hc,Bool.false_and] at hq;exact hq
     ·rw[if_pos hf] at hs;exact ez (v:=.bool false) g4 (by rw[←hs];exact hQ h' (cT.trans fr'))
end Ir
end Go.Proofs.Ytepdklcpagielaa
set_option maxRecDepth 100000
set_option linter.unusedSimpArgs false
set_option linter.unusedVariables false
namespace Go.Proofs.Ytepdklcpagielaa
open Go Ads
namespace Ir
theorem CO:∀{cs:List Pt} {i f:Nat} (hi:i<cs.length) (v:List AV) (c':Pt),f+v.length≤3→Heap.splice (pt cs[i]).cells f v=(pt c').cells→Heap.splice (ai (pts cs)) (i*3+f) v=ai (pts (cs.set i c'))
 |c::cs,0,f,hi,v,c',hf,hp=>by
  show Heap.splice ((pt c).cells++ai (pts cs)) (0*3+f) v=(pt c').cells++ai (pts cs);rw[Nat.zero_mul,Nat.zero_add,tu _ _ _ _ (by show f+v.length≤3;exact hf)];exact congrArg (· ++ai (pts cs)) hp
 |c::cs,i+1,f,hi,v,c',hf,hp=>by
  have:=CO (cs:=cs) (i:=i) (f:=f) (by simpa using hi) v c' hf hp;show Heap.splice ((pt c).cells++ai (pts cs)) ((i+1)*3+f) v=(pt c).cells++ai (pts (cs.set i c'));rw[show(i+1)*3+f=(pt c).cells.length+(i*3+f) by show _=3+_;omega,mo,this]
section
variable {h:Heap} {b C:Nat} {X:AV} {tl:List AV} {cs:List Pt} {ps:List Pr}
theorem RS.W7{o i f:Nat}{v:AV}{c':Pt}(r:RS h b C X tl cs ps)(hi:i<cs.length)(ho:o=i*3+f)(hn:v.cells.length=1)(hf:f+1≤3)(hfl:bx v.cells=true)(hp:Heap.splice (pt cs[i]).cells f v.cells=(pt c').cells):
  ∃h',eV (.store 1) [.ptr C o,v] h=some (.undef,h')∧RS h' b C X tl (cs.set i c') ps∧Fr h h' [C]:=by
 have hb:b≠C:=r.ne;have Q5:(ai (pts cs)).length=cs.length*3:=by rw[c9 (l:=pts cs) (s:=3) (ew (enc:=pt) (n:=3) (fun _=>rfl) cs),bh]
 subst ho;refine⟨_,cD (es:=3) r.cf hn (by rw[Q5];omega) hfl,⟨?_,?_,r.len,by rw[List.length_set];exact r.le,r.ne⟩,(Fr.refl h [C]).set (by simp)⟩
 ·rw[bB hb,List.length_set];exact r.st
 ·rw[aG,CO hi v.cells c' (by omega) hp]
theorem RS.Nz{o i f:Nat}{v:AV}(r:RS h b C X tl cs ps)(hi:i<cs.length)(hf:f<3)(ho:o=i*3+f)(hv:(pt cs[i]).cells[f]?=some v):rV .bC [.ptr C o] h=some v:=by
 subst ho;exact bA r.cf ((CM hi hf).trans hv)
theorem RS.vC{o i f n:Nat}{v:AV}{p p':Pr}(r:RS h b C X tl cs (ps.set i p))(hi:i<ps.length)(ho:o=i*23+f+2)(hn:v.cells.length=n)(hf:f+n≤23)(hfl:bx v.cells=true)(hp:Heap.splice (dG p) f v.cells=dG p'):
  ∃h',eV (.store n) [.ptr b o,v] h=some (.undef,h')∧RS h' b C X tl cs (ps.set i p')∧Fr h h' [b]:=by
 have:=r.put (i:=i) (p':=p') (by rw[List.length_set];exact hi) ho hn hf hfl (by rw[List.getElem_set_self];exact hp)
 rwa [List.set_set] at this
theorem RS.ldS{o i f:Nat}{v:AV}{p:Pr}(r:RS h b C X tl cs (ps.set i p))(hi:i<ps.length)(hf:f<23)(ho:o=i*23+f+2)(hv:(dG p)[f]?=some v):rV .bC [.ptr b o] h=some v:=
 r.ld (by rw[List.length_set];exact hi) hf ho (by rw[List.getElem_set_self];exact hv)
theorem RS.nV{i:Nat}(r:RS h b C X tl cs ps)(hi:i<ps.length):RS h b C X tl cs (ps.set i ps[i]):=by
 rw[List.set_getElem_self];exact r
end
def Zl:Jb:=⟨false,0,0,0⟩
def mg:Pr:=⟨false,0,0,0,0,Zl,Zl,Zl,Zl,false,0⟩
def fresh(p:Pr)(c:Pt)(a:Int):Pr:={p with cJ:=c.cJ,cn:=c.cn,bf:=0,ends:=IntKind.i64.wrap (a+c.cJ)}
def Fa(c:Pt)(n:Int):Pt:={c with cJ:=IntKind.i64.wrap (n.tdiv 100),cn:=n.tmod 100}
def dM(c:Pt)(p:Pr)(x:Nt):Pt×Pr×Bool:=
 if(x.k==7)=true then(c,mg,true)
 else if(x.k==6)=true then(c,fresh {mg with xx:=true} c x.a,false)
 else(Fa c x.n,fresh p (Fa c x.n) x.a,false)
theorem TN{h0:Heap}{b C:Nat}{X:AV}{cs:List Pt}{ps:List Pr}{un now at_:Int}{bf gone:Bool}(r:RS h0 b C X (tI un now bf gone at_) cs ps)(hb:b<h0.next)(hC:C<h0.next){i o:Nat}(hi:i<cs.length)(oe:i<ps.length)(ho:o=i*23+2)(x:Nt)(oy:x.p=((i:Nat):Int))(hk:bQ x=true){Q:AV→Heap→Prop}
  (hQ:∀h',RS h' b C X (tI un now bf (gone||(dM cs[i] ps[i] x).2.2) at_) (cs.set i (dM cs[i] ps[i] x).1) (ps.set i (dM cs[i] ps[i] x).2.1)→Fr h0 h' [b,C]→Q (.cQ []) h'):VD fs ms 89 [.ptr b 0,.ptr b o,nt x] h0 Q:=by
 have hlen:=r.len;refine bw (af:=Yu) rfl (Nat.le_of_ble_eq_true rfl) ?_;conv=>whnf
 refine aj true ?_;conv=>whnf
 have gs:(h0.new (.cells (nt x).cells true 0)).get h0.next=some (.cells (nt x).cells true 0):=an;have cT:Fr h0 (h0.new (.cells (nt x).cells true 0)) []:=(Fr.refl h0 []).new;have n1:h0.next<(h0.new (.cells (nt x).cells true 0)).next:=Nat.lt_succ_self _
 have r1:=r.keep cT hb hC;generalize h0.new (.cells (nt x).cells true 0)=h1 at*;refine aj true ?_;conv=>whnf
 refine⟨_,bA r1.st rfl,?_⟩;conv=>whnf
 refine⟨_,bA gs rfl,?_⟩;conv=>whnf
 rw[oy];refine⟨_,gI hi,?_⟩;conv=>whnf
 have frc:∀{h'},Fr h0 h' []→Fr h0 h' [b,C]:=fun f=>⟨f.next,fun c hc hn=>f.keep c hc (by simp)⟩;have Np:∀{h h'},Fr h h' [b]→Fr h h' [b,C]:=fun f=>⟨f.next,fun c hc hn=>f.keep c hc (fun h=>hn (by simp at h;simp[h]))⟩;have frC:∀{h h'},Fr h h' [C]→Fr h h' [b,C]:=fun f=>⟨f.next,fun c hc hn=>f.keep c hc (fun h=>hn (by simp at h;simp[h]))⟩;have kp:∀{h'},Fr h1 h' [b,C]→h'.get h0.next=some (.cells (nt x).cells true 0):=fun f=>(f.keep h0.next n1 (by simp;omega)).trans gs;have r1:=r1.nV oe;refine az (VC.mono (Q:=fun y e h=>Fr h1 h [b,C]∧((y=.ret∧dM cs[i] ps[i] x=(cs[i],mg,true)∧RS h b C X (tI un now bf true at_) cs (ps.set i mg))∨
   (y=.normal∧∃cs' p',∃hi':i<cs'.length,RS h b C X (tI un now bf gone at_) cs' (ps.set i p')∧cs.set i (dM cs[i] ps[i] x).1=cs'∧dM cs[i] ps[i] x=(cs'[i],fresh p' cs'[i] x.a,false)∧aP e [(1,.ptr b o),(5,.ptr h0.next 0),(6,.ptr C (0+i*3))]))) ?_ ?_)
 ·refine aj true ?_;conv=>whnf
  refine⟨_,bA gs rfl,?_⟩;conv=>whnf
  refine aL ?_;refine aj true ?_;conv=>whnf
  cases k7:(x.k==7) with
  |true=>
   have ht:dM cs[i] ps[i] x=(cs[i],mg,true):=by rw[dM,if_pos k7]
   refine aa (z:=true) ?_;conv=>whnf
   obtain⟨h2,s2,r2,fq⟩:=r1.vC (v:=.agg (dG mg)) (n:=23) (p':=mg) oe (f:=0) (o:=o) (by omega) rfl (by omega) rfl rfl;refine aT s2 fun rF e2=>?_;subst e2;conv=>whnf
   obtain⟨h3,s3,r3,iB⟩:=r2.xR (v:=.bool true) (f:=3) (o:=0+97) (tl':=tI un now bf true at_) (by omega) rfl (by simp[tI]) rfl rfl;refine aT s3 fun JW e3=>?_;subst e3;conv=>whnf
   exact⟨Np (fq.trans iB),.inl ⟨rfl,ht,r3⟩⟩
  |false=>
   refine b9 ?_;conv=>whnf
   refine aj true ?_;conv=>whnf
   cases k6:(x.k==6) with
   |true=>
    have ht:dM cs[i] ps[i] x=(cs[i],fresh {mg with xx:=true} cs[i] x.a,false):=by rw[dM,if_neg (by rw[k7];simp),if_pos k6]
    refine aa (z:=true) ?_;conv=>whnf
    obtain⟨h2,s2,r2,fq⟩:=r1.vC (v:=.agg (dG {mg with xx:=true})) (n:=23) (p':={mg with xx:=true}) oe (f:=0) (o:=o) (by omega) rfl (by omega) rfl rfl;refine aT s2 fun rF e2=>?_;subst e2;conv=>whnf
    exact⟨Np fq,.inr ⟨rfl,cs,_,hi,r2,by rw[ht];exact List.set_getElem_self hi,ht,rfl,rfl,rfl,trivial⟩⟩
   |false=>
    have k8:(x.k==8)=true:=by simpa[bQ,k6,k7] using hk
    have ht:dM cs[i] ps[i] x=(Fa cs[i] x.n,fresh ps[i] (Fa cs[i] x.n) x.a,false):=by rw[dM,if_neg (by rw[k7];simp),if_neg (by rw[k6];simp)]
    refine b9 ?_;conv=>whnf
    refine aj true ?_;conv=>whnf
    rw[k8];refine aa (z:=true) ?_;conv=>whnf
    refine⟨_,bA gs rfl,?_⟩;conv=>whnf
    refine⟨.int .i64 (IntKind.i64.wrap (x.n.tdiv 100)),rfl,?_⟩;conv=>whnf
    refine⟨_,bA gs rfl,?_⟩;conv=>whnf
    refine⟨.int .i64 (x.n.tmod 100),rfl,?_⟩;conv=>whnf
    obtain⟨h2,s2,r2,fq⟩:=r1.W7 (v:=.int .i64 (IntKind.i64.wrap (x.n.tdiv 100))) (c':={cs[i] with cJ:=IntKind.i64.wrap (x.n.tdiv 100)}) hi (f:=0) (o:=0+i*3+0) (by omega) rfl (by omega) rfl rfl;refine aT s2 fun rF e2=>?_;subst e2;conv=>whnf
    obtain⟨h3,s3,r3,iB⟩:=r2.W7 (v:=.int .i64 (x.n.tmod 100)) (i:=i) (c':=Fa cs[i] x.n) (by rw[List.length_set];exact hi) (f:=1) (o:=0+i*3+1) (by omega) rfl (by omega) rfl (by rw[List.getElem_set_self];rfl);refine aT s3 fun JW e3=>?_;subst e3;conv=>whnf
    rw[List.set_set] at r3;have qM:=kp (frC fq);refine⟨dc (by(conv=>whnf);repeat' (first|exact trivial|exact bA gs rfl|exact bA qM rfl|(exact⟨rfl,rfl,.inr ⟨_,_,rfl⟩⟩)|(refine⟨rfl,rfl,.inl ⟨rfl,fun o ho=>?_⟩⟩;cases ho;first|rfl|exact bA gs rfl|exact bA qM rfl)|(exact⟨rfl,.inr ⟨_,_,rfl⟩⟩)|(refine⟨rfl,.inl ⟨rfl,fun i o hi ho=>?_⟩⟩;cases hi;cases ho;first|rfl|exact bA gs rfl|exact bA qM rfl)|(refine And.intro (fun dZ=>(Bool.false_ne_true dZ).elim) ?_<;>conv=>whnf)|(refine And.intro (fun _=>?_) ?_<;>conv=>whnf)|(refine And.intro ?_ ?_<;>conv=>whnf))),?_⟩;conv=>whnf
    exact⟨frC (fq.trans iB),.inr ⟨rfl,_,_,by rw[List.length_set];exact hi,r3,by rw[ht],by rw[List.getElem_set_self];exact ht,rfl,rfl,rfl,trivial⟩⟩
 rintro y e h ⟨fr,⟨rfl,ht,r2⟩|⟨rfl,cs',p',hi',r2,hcs,ht,he⟩⟩
 ·have:=hQ h;rw[ht,Bool.or_true,List.set_getElem_self] at this;exact this r2 ((frc cT).trans fr)
 ·have hq:=hQ;rw[hcs,ht,Bool.or_false] at hq;simp only at hq;have gs:=kp fr;clear hQ ht hcs;show VC fs ms _ _ _ _ _ _;refine ak 4 _ he ?_;clear he;generalize fh:cs'[i]=c at*;have l0:rV .bC [.ptr C (0+i*3+0)] h=some (.int .i64 c.cJ):=r2.Nz hi' (f:=0) (by omega) (by omega) (by rw[fh];rfl);have l1:rV .bC [.ptr C (0+i*3+1)] h=some (.int .i64 c.cn):=r2.Nz hi' (f:=1) (by omega) (by omega) (by rw[fh];rfl);refine aj true ?_;conv=>whnf
  refine⟨_,l0,?_⟩;conv=>whnf
  refine⟨_,l1,?_⟩;conv=>whnf
  obtain⟨h3,s3,r3,iB⟩:=r2.vC (v:=.int .i64 c.cJ) (n:=1) (p':={p' with cJ:=c.cJ}) oe (f:=1) (o:=o+1) (by omega) rfl (by omega) rfl rfl;refine aT s3 fun JW e3=>?_;subst e3;conv=>whnf
  obtain⟨h4,s4,r4,jY⟩:=r3.vC (v:=.int .i64 c.cn) (n:=1) (p':={p' with cJ:=c.cJ,cn:=c.cn}) oe (f:=2) (o:=o+2) (by omega) rfl (by omega) rfl rfl;refine aT s4 fun Uo e4=>?_;subst e4;conv=>whnf
  have vK:=kp (fr.trans (Np (iB.trans jY)));have l4:rV .bC [.ptr C (0+i*3+0)] Uo=some (.int .i64 c.cJ):=r4.Nz hi' (f:=0) (by omega) (by omega) (by rw[fh];rfl);refine aa (z:=true) ?_;conv=>whnf
  refine⟨_,bA vK rfl,?_⟩;conv=>whnf
  refine⟨_,l4,?_⟩;conv=>whnf
  obtain⟨h5,s5,r5,k9⟩:=r4.vC (v:=.int .i64 0) (n:=1) (p':={p' with cJ:=c.cJ,cn:=c.cn,bf:=0}) oe (f:=4) (o:=o+4) (by omega) rfl (by omega) rfl rfl;refine aT s5 fun O6 e5=>?_;subst e5;conv=>whnf
  obtain⟨h6,s6,r6,tG⟩:=r5.vC (v:=.int .i64 (IntKind.i64.wrap (x.a+c.cJ))) (n:=1) (p':=fresh p' c x.a) oe (f:=3) (o:=o+3) (by omega) rfl (by omega) rfl rfl;refine aT s6 fun O7 e6=>?_;subst e6;conv=>whnf
  have Aw:=kp (fr.trans (Np (iB.trans (jY.trans k9))));refine⟨dc (by(conv=>whnf);repeat' (first|exact trivial|exact bA vK rfl|exact bA Aw rfl|(exact⟨rfl,rfl,.inr ⟨_,_,rfl⟩⟩)|(refine⟨rfl,rfl,.inl ⟨rfl,fun o ho=>?_⟩⟩;cases ho;first|rfl|exact bA vK rfl|exact bA Aw rfl)|(exact⟨rfl,.inr ⟨_,_,rfl⟩⟩)|(refine⟨rfl,.inl ⟨rfl,fun i o hi ho=>?_⟩⟩;cases hi;cases ho;first|rfl|exact bA vK rfl|exact bA Aw rfl)|(refine And.intro (fun dZ=>(Bool.false_ne_true dZ).elim) ?_<;>conv=>whnf)|(refine And.intro (fun _=>?_) ?_<;>conv=>whnf)|(refine And.intro ?_ ?_<;>conv=>whnf))),?_⟩;conv=>whnf
  exact hq _ r6 ((frc cT).trans (fr.trans (Np (iB.trans (jY.trans (k9.trans tG))))))
end Ir
end Go.Proofs.Ytepdklcpagielaa
set_option maxRecDepth 100000
set_option linter.unusedSimpArgs false
set_option linter.unusedVariables false
namespace Go.Proofs.Ytepdklcpagielaa
open Go Ads
namespace Ir
theorem HE{p:Pr}{k:Nat}(hk:k<4)(a:Bool):Heap.splice (dG p) (5+k*4+0) [.bool a]=dG (p.fm k {p.js k with is:=a}):=by
 match k,hk with
 |0,_=>rfl
 |1,_=>rfl
 |2,_=>rfl
 |3,_=>rfl
theorem Ek{p:Pr}{k:Nat}(hk:k<4)(a:Int):Heap.splice (dG p) (5+k*4+2) [.int .i64 a]=dG (p.fm k {p.js k with bf:=a}):=by
 match k,hk with
 |0,_=>rfl
 |1,_=>rfl
 |2,_=>rfl
 |3,_=>rfl
theorem Ej{p:Pr}{k:Nat}(hk:k<4)(j:Jb):Heap.splice (dG p) (5+k*4+0) (I3 j)=dG (p.fm k j):=by
 match k,hk with
 |0,_=>rfl
 |1,_=>rfl
 |2,_=>rfl
 |3,_=>rfl
def rm(p:Pr)(x:Nt)(t:Tk):Pr:=
 if(x.k==1)=true then p.fm x.t.toNat {p.js x.t.toNat with bf:=IntKind.i64.wrap ((p.js x.t.toNat).bf+1)}
 else if(x.k==2)=true then(if(x.e==0)=true then p.fm x.t.toNat ⟨true,x.a,0,IntKind.i64.wrap (x.a+t.p)⟩ else p)
 else if(x.k==3||x.k==4)=true then{p.fm x.t.toNat {p.js x.t.toNat with is:=false} with has:=p.has&&p.task !=x.t}
 else if(x.k==5)=true then(if(x.e==0&&(x.n==4||x.n==5))=true then{p with has:=x.n==4,task:=x.t} else p)
 else p
theorem fK(p:Pr)(k:Nat)(j:Jb):(p.fm k j).has=p.has∧(p.fm k j).task=p.task:=by
 unfold Pr.fm;split<;>exact⟨rfl,rfl⟩
theorem P1(p:Pr):(dG p)[21]?=some (.bool p.has)∧(dG p)[22]?=some (.int .i64 p.task):=⟨rfl,rfl⟩
theorem RN{h0:Heap}{b C:Nat}{X:AV}{tl:List AV}{cs:List Pt}{ps:List Pr}(r:RS h0 b C X tl cs ps)(hb:b<h0.next)(hC:C<h0.next){i o:Nat}(hi:i<ps.length)(ho:o=i*23+2)(x:Nt)(t:Tk)(ht:0≤x.t∧x.t<4){Q:AV→Heap→Prop}
  (hQ:∀h',RS h' b C X tl cs (ps.set i (rm ps[i] x t))→Fr h0 h' [b]→Q (.cQ []) h'):VD fs ms 92 [.ptr b o,nt x,tk t] h0 Q:=by
 have Pc:x.t=((x.t.toNat:Nat):Int):=by omega
 have Hu:x.t.toNat<4:=by omega
 refine bw (af:=Yx) rfl (Nat.le_of_ble_eq_true rfl) ?_;conv=>whnf
 refine aj true ?_;conv=>whnf
 have g1:((h0.new (.cells (nt x).cells true 0)).new (.cells (tk t).cells true 0)).get h0.next=some (.cells (nt x).cells true 0):=(aO (Nat.lt_succ_self _)).trans an;have g2:((h0.new (.cells (nt x).cells true 0)).new (.cells (tk t).cells true 0)).get (h0.new (.cells (nt x).cells true 0)).next=some (.cells (tk t).cells true 0):=an
 have cT:Fr h0 ((h0.new (.cells (nt x).cells true 0)).new (.cells (tk t).cells true 0)) []:=((Fr.refl h0 []).new).new;have n1:h0.next<((h0.new (.cells (nt x).cells true 0)).new (.cells (tk t).cells true 0)).next:=by show h0.next<h0.next+1+1;omega
 generalize(h0.new (.cells (nt x).cells true 0)).new (.cells (tk t).cells true 0)=h1 at*;generalize(h0.new (.cells (nt x).cells true 0)).next=p2 at*
 have Np:∀{h'},Fr h0 h' []→Fr h0 h' [b]:=fun f=>⟨f.next,fun c hc hn=>f.keep c hc (by simp)⟩;have r1:=(r.keep cT hb hC).nV hi;have k1:∀{h'},Fr h1 h' [b]→h'.get h0.next=some (.cells (nt x).cells true 0):=fun f=>(f.keep h0.next n1 (by simp;omega)).trans g1;have hQ:∀h',RS h' b C X tl cs (ps.set i (rm ps[i] x t))→Fr h1 h' [b]→Q (.cQ []) h':=fun h' r' f=>hQ h' r' ((Np cT).trans f);unfold rm at hQ;generalize hp:ps[i]=p at*;generalize hjn:x.t.toNat=jn at*;refine aj true ?_;conv=>whnf
 refine⟨_,bA g1 rfl,?_⟩;conv=>whnf
 rw[Pc];refine⟨_,dr Hu,?_⟩;conv=>whnf
 refine aj true ?_;conv=>whnf
 refine⟨_,bA g1 rfl,?_⟩;conv=>whnf
 refine aL ?_;refine aj true ?_;conv=>whnf
 cases e1:(x.k==1) with
 |true=>
  rw[if_pos e1] at hQ;refine aa (z:=true) ?_;conv=>whnf
  refine⟨_,r1.ldS hi (f:=5+jn*4+2) (v:=.int .i64 (p.js jn).bf) (by omega) (by omega) (by rw[y7 Hu (by omega)];rfl),?_⟩;conv=>whnf
  obtain⟨h2,s2,r2,fq⟩:=r1.vC (v:=.int .i64 (IntKind.i64.wrap ((p.js jn).bf+1))) (n:=1) hi (f:=5+jn*4+2) (o:=o+5+jn*4+2) (by omega) rfl (by omega) rfl (Ek Hu _);refine aT s2 fun rF e2=>?_;subst e2;conv=>whnf
  exact hQ _ r2 fq
 |false=>
  rw[if_neg (by rw[e1];simp)] at hQ;refine b9 ?_;conv=>whnf
  refine aj true ?_;conv=>whnf
  cases e2:(x.k==2) with
  |true=>
   rw[if_pos e2] at hQ;refine aa (z:=true) ?_;conv=>whnf
   refine⟨_,bA g1 rfl,?_⟩;conv=>whnf
   refine br (fun hc=>?_) (fun hc=>?_)<;>(try rw[hc])<;>(conv=>whnf)
   ·rw[if_pos hc] at hQ;refine⟨_,bA g1 rfl,?_⟩;conv=>whnf
    refine⟨_,bA g1 rfl,?_⟩;conv=>whnf
    refine⟨_,bA g2 rfl,?_⟩;conv=>whnf
    obtain⟨h2,s2,r2,fq⟩:=r1.vC (v:=.agg (I3 ⟨true,x.a,0,IntKind.i64.wrap (x.a+t.p)⟩)) (n:=4) hi (f:=5+jn*4+0) (o:=o+5+jn*4) (by omega) rfl (by omega) rfl (Ej Hu _);refine aT s2 fun rF e2=>?_;subst e2;conv=>whnf
    exact hQ _ r2 fq
   ·rw[if_neg (by rw[hc];simp)] at hQ;exact hQ _ r1 (Fr.refl _ _)
  |false=>
   rw[if_neg (by rw[e2];simp)] at hQ;refine b9 ?_;conv=>whnf
   refine az (VC.mono (Q:=fun y e h=>y=.normal∧h=h1∧aP e [(0,.ptr b o),(4,.ptr h0.next 0),(6,.ptr b (o+5+jn*4)),(14,.int .i64 x.k),(39,.bool (x.k==3||x.k==4))]) ?_ ?_)
   ·refine aa (z:=true) ?_;conv=>whnf
    refine br (fun hc=>?_) (fun hc=>?_)<;>(try rw[hc])<;>(conv=>whnf)
    ·exact⟨rfl,rfl,rfl,rfl,rfl,rfl,by first|rfl|(rw[hc];rfl),trivial⟩
    ·exact⟨rfl,rfl,rfl,rfl,rfl,rfl,by first|rfl|(rw[hc];rfl),trivial⟩
   rintro y e h1 ⟨rfl,rfl,he⟩;show VC fs ms _ _ _ _ _ _;refine ak 7 _ he ?_;clear he;cases e3:(x.k==3||x.k==4) with
   |true=>
    rw[if_pos e3] at hQ;refine b9 ?_;conv=>whnf
    refine aj true ?_;conv=>whnf
    obtain⟨h2,s2,r2,fq⟩:=r1.vC (v:=.bool false) (n:=1) hi (f:=5+jn*4+0) (o:=o+5+jn*4+0) (by omega) rfl (by omega) rfl (HE Hu _);refine aT s2 fun rF e2=>?_;subst e2;conv=>whnf
    obtain⟨q1,q2⟩:=fK p jn {p.js jn with is:=false};generalize hq:p.fm jn {p.js jn with is:=false}=q at*;obtain⟨c1,c2⟩:=P1 q;refine aa (z:=true) ?_;conv=>whnf
    refine⟨_,r2.ldS hi (f:=21) (by omega) (by omega) c1,?_⟩;conv=>whnf
    rw[q1] at*;rw[q2] at*;refine br (fun hc=>?_) (fun hc=>?_)<;>(try rw[hc])<;>(conv=>whnf)
    ·rw[hc,Bool.true_and] at hQ;refine⟨_,r2.ldS hi (f:=22) (by omega) (by omega) c2,?_⟩;conv=>whnf
     refine⟨_,bA (k1 fq) rfl,?_⟩;conv=>whnf
     obtain⟨h3,s3,r3,iB⟩:=r2.vC (v:=.bool (p.task !=x.t)) (n:=1) (p':={q with has:=p.task !=x.t}) hi (f:=21) (o:=o+21) (by omega) rfl (by omega) rfl rfl;refine aT s3 fun JW e3=>?_;subst e3;conv=>whnf
     exact hQ _ r3 (fq.trans iB)
    ·rw[hc,Bool.false_and] at hQ;obtain⟨h3,s3,r3,iB⟩:=r2.vC (v:=.bool false) (n:=1) (p':={q with has:=false}) hi (f:=21) (o:=o+21) (by omega) rfl (by omega) rfl rfl;refine aT s3 fun JW e3=>?_;subst e3;conv=>whnf
     exact hQ _ r3 (fq.trans iB)
   |false=>
    rw[if_neg (by rw[e3];simp)] at hQ;refine b9 ?_;conv=>whnf
    refine aj true ?_;conv=>whnf
    cases e5:(x.k==5) with
    |true=>
     rw[if_pos e5] at hQ;refine b9 ?_;conv=>whnf
     refine az (VC.mono (Q:=fun y e h=>y=.normal∧h=h1∧aP e [(0,.ptr b o),(4,.ptr h0.next 0),(75,.bool (x.e==0&&(x.n==4||x.n==5)))]) ?_ ?_)
     ·refine aa (z:=true) ?_;conv=>whnf
      refine⟨_,bA g1 rfl,?_⟩;conv=>whnf
      refine br (fun hc=>?_) (fun hc=>?_)<;>(try rw[hc])<;>(conv=>whnf)
      ·refine⟨_,bA g1 rfl,?_⟩;conv=>whnf
       have h1c:=hc;refine br (fun hc=>?_) (fun hc=>?_)<;>(try rw[hc])<;>(conv=>whnf)
       ·exact⟨rfl,rfl,rfl,rfl,by first|rfl|(rw[h1c,hc];rfl),trivial⟩
       ·refine⟨_,bA g1 rfl,?_⟩;conv=>whnf
        exact⟨rfl,rfl,rfl,rfl,by first|rfl|(rw[h1c,hc];rfl),trivial⟩
      ·exact⟨rfl,rfl,rfl,rfl,by first|rfl|(rw[hc];rfl),trivial⟩
     rintro y e h1 ⟨rfl,rfl,he⟩;show VC fs ms _ _ _ _ _ _;refine ak 7 _ he ?_;clear he;cases e6:(x.e==0&&(x.n==4||x.n==5)) with
     |true=>
      rw[if_pos e6] at hQ;refine aa (z:=true) ?_;conv=>whnf
      refine⟨_,bA g1 rfl,?_⟩;conv=>whnf
      refine⟨_,bA g1 rfl,?_⟩;conv=>whnf
      obtain⟨h2,s2,r2,fq⟩:=r1.vC (v:=.bool (x.n==4)) (n:=1) (p':={p with has:=x.n==4}) hi (f:=21) (o:=o+21) (by omega) rfl (by omega) rfl rfl;refine aT s2 fun rF e2=>?_;subst e2;conv=>whnf
      obtain⟨h3,s3,r3,iB⟩:=r2.vC (v:=.int .i64 x.t) (n:=1) (p':={p with has:=x.n==4,task:=x.t}) hi (f:=22) (o:=o+22) (by omega) rfl (by omega) rfl rfl;refine aT s3 fun JW e3=>?_;subst e3;conv=>whnf
      have g3:=k1 fq;refine⟨dc (by(conv=>whnf);repeat' (first|exact trivial|exact bA g1 rfl|exact bA g3 rfl|(exact⟨rfl,rfl,.inr ⟨_,_,rfl⟩⟩)|(refine⟨rfl,rfl,.inl ⟨rfl,fun o ho=>?_⟩⟩;cases ho;first|rfl|exact bA g1 rfl|exact bA g3 rfl)|(exact⟨rfl,.inr ⟨_,_,rfl⟩⟩)|(refine⟨rfl,.inl ⟨rfl,fun i o hi ho=>?_⟩⟩;cases hi;cases ho;first|rfl|exact bA g1 rfl|exact bA g3 rfl)|(refine And.intro (fun dZ=>(Bool.false_ne_true dZ).elim) ?_<;>conv=>whnf)|(refine And.intro (fun _=>?_) ?_<;>conv=>whnf)|(refine And.intro ?_ ?_<;>conv=>whnf))),?_⟩;conv=>whnf
      exact hQ _ r3 (fq.trans iB)
     |false=>
      rw[if_neg (by rw[e6];simp)] at hQ;refine aa (z:=true) ?_;conv=>whnf
      exact hQ _ r1 (Fr.refl _ _)
    |false=>
     rw[if_neg (by rw[e5];simp)] at hQ;refine aa (z:=true) ?_;conv=>whnf
     exact hQ _ r1 (Fr.refl _ _)
end Ir
end Go.Proofs.Ytepdklcpagielaa
set_option maxRecDepth 100000
set_option linter.unusedSimpArgs false
set_option linter.unusedVariables false
namespace Go.Proofs.Ytepdklcpagielaa
open Go Ads
namespace Ir
abbrev Ks:=List Pt×List Pr×Int×Bool×Bool
def Gt:Pt:=⟨0,0,0,[]⟩
def jv:Tk:=⟨0,0,0,0,0,0,0,0⟩
def zi(cs:List Pt)(ps:List Pr)(now:Int)(bf gone:Bool)(i:Nat)(c:Pt)(p:Pr)(t:Tk)(x:Nt):Int ⊕Ks:=
 if(p.xx !=(x.k==6))=false then .inl 2
 else if(x.k !=1||(!bf&&iS (cr ps cs.length)==x.p))=false then .inl 3
 else if kK p x=false then .inl 5
 else if bQ x=true then .inr (cs.set i (dM c p x).1,ps.set i (dM c p x).2.1,now,bf,gone||(dM c p x).2.2)
 else if(x.t !=-1&&eu p x t !=0)=true then .inl (eu p x t)
 else if eS cs ps p x=false then .inl 8
 else
  let p1:=if(x.k==1)=true then{p with bf:=IntKind.i64.wrap (p.bf+1)} else p
  .inr (cs,ps.set i (if(x.t !=-1)=true then rm p1 x t else p1),now,bf||x.k==1,gone)
def BN(cs:List Pt)(ps:List Pr)(now:Int)(bf gone:Bool)(x:Nt):Int ⊕Ks:=
 zi cs ps now bf gone x.p.toNat (cs.getD x.p.toNat Gt) (ps.getD x.p.toNat mg) ((cs.getD x.p.toNat Gt).ts.getD x.t.toNat jv) x
def kT(un:Int)(s:Ks)(x:Nt):Int ⊕Ks:=
 if cX s.1 s.2.2.1 un x=false then .inl 1
 else match nV s.1.length (x.a-s.2.2.1).toNat s.2.1 s.2.2.1 s.2.2.2.1 s.2.2.2.2 with
 |.inl r=>.inl r
 |.inr (ps,now,bf,gone)=>BN s.1 ps now bf gone x
theorem qy{cs:List Pt}{now un:Int}{x:Nt}(h:cX cs now un x=true):now≤x.a∧x.a≤un∧1≤x.k∧x.k≤8∧0≤x.p∧x.p<(cs.length:Nat)∧(bQ x=true→x.t=0)∧
  (bQ x=false→(0≤x.t∨(x.t=-1∧x.k=1))∧x.t<(lT cs x.p:Nat)):=by
 unfold cX at h;split at h
 ·simp at h
 ·rename_i h1;simp only[Bool.or_eq_true,decide_eq_true_eq,not_or] at h1;refine⟨by omega,by omega,by omega,by omega,by omega,by omega,fun hw=>?_,fun hw=>?_⟩
  ·rw[if_pos hw] at h;simpa using h
  ·rw[if_neg (by rw[hw];simp)] at h;simp only[Bool.and_eq_true,Bool.or_eq_true,decide_eq_true_eq,beq_iff_eq] at h;exact⟨h.1,h.2⟩
def rZ(ps qs:List Pr):Prop:=qs.length=ps.length∧∀(i:Nat) (h1:i<ps.length) (h2:i<qs.length),qs[i].has=ps[i].has∧qs[i].task=ps[i].task
theorem rZ.refl(ps:List Pr):rZ ps ps:=⟨rfl,fun _ _ _=>⟨rfl,rfl⟩⟩
theorem rZ.trans{a b c:List Pr}(h:rZ a b)(h':rZ b c):rZ a c:=
 ⟨h'.1.trans h.1,fun i h1 h2=>⟨(h'.2 i (h.1▸h1) h2).1.trans (h.2 i h1 (h.1▸h1)).1,(h'.2 i (h.1▸h1) h2).2.trans (h.2 i h1 (h.1▸h1)).2⟩⟩
theorem rZ.wf{cs:List Pt}{ps qs:List Pr}(h:rZ ps qs)(w:G1 cs ps):G1 cs qs:=fun i hc hp hh=>by
 have iD:i<ps.length:=h.1▸hp;obtain⟨a,b⟩:=h.2 i iD hp;rw[b];exact w i hc iD (a▸hh)
theorem GL{nw:Int}{p p':Pr}(h:kj nw p=some p'):p'.has=p.has∧p'.task=p.task:=by
 unfold kj at h;split at h
 ·split at h
  ·simp only[Option.some.injEq] at h;subst h;exact⟨rfl,rfl⟩
  ·simp at h
 ·simp only[Option.some.injEq] at h;subst h;exact⟨rfl,rfl⟩
theorem Bi{nw:Int}{ps:List Pr}:∀{n:Nat} {qs:List Pr},gU nw ps n=some qs→rZ ps qs
 |0,qs,h=>by
  simp only[gU,Option.some.injEq] at h;subst h;exact .refl ps
 |n+1,qs,h=>by
  simp only[gU] at h;split at h
  ·simp at h
  ·rename_i rs hr;have i1:=Bi hr;split at h
   ·simp only[Option.some.injEq] at h;subst h;exact i1
   ·rename_i p hp;obtain⟨hlt,hpe⟩:=List.getElem?_eq_some_iff.1 hp;simp only[Option.map_eq_some_iff] at h;obtain⟨p',h1,h2⟩:=h;subst h2;obtain⟨s1,s2⟩:=GL h1;refine i1.trans ⟨List.length_set,fun i a b=>?_⟩;rw[List.getElem_set];split
    ·rename_i he;subst he;rw[s1,s2,hpe];exact⟨rfl,rfl⟩
    ·exact⟨rfl,rfl⟩
theorem Kx{n:Nat}{ps qs:List Pr}{now:Int}{bf gone:Bool}(h:xK n ps now bf gone=.inr qs):rZ ps qs:=by
 unfold xK at h;split at h
 ·simp at h
 ·split at h
  ·simp at h
  ·split at h
   ·simp at h
   ·rename_i rs hr;simp only[Sum.inr.injEq] at h;subst h;exact Bi hr
theorem pQ{n:Nat}:∀{k:Nat} {ps:List Pr} {now:Int} {bf gone:Bool} {s:Kn},nV n k ps now bf gone=.inr s→rZ ps s.1∧s.2.1=now+(k:Nat)
 |0,ps,now,bf,gone,s,h=>by
  simp only[nV,Sum.inr.injEq] at h;subst h;exact⟨.refl ps,by simp⟩
 |k+1,ps,now,bf,gone,s,h=>by
  simp only[nV] at h;split at h
  ·simp at h
  ·rename_i qs hq;obtain⟨a,b⟩:=pQ h;exact⟨(Kx hq).trans a,by rw[b];omega⟩
theorem To{h0:Heap}{b C:Nat}{X:AV}{cs:List Pt}{ps:List Pr}{un now at_:Int}{bf gone:Bool}(r:RS h0 b C X (tI un now bf gone at_) cs ps)(hb:b<h0.next)(hC:C<h0.next)(hn:0≤now)(hun:un≤10000)(hwf:G1 cs ps)(hts:∀c∈cs,c.ts.length≤4)(x:Nt){Q R:AV→Heap→Prop}
  (hQ:∀s:Ks,kT un (cs,ps,now,bf,gone) x=.inr s→∀h',RS h' b C X (tI un s.2.2.1 s.2.2.2.1 s.2.2.2.2 at_) s.1 s.2.1→Fr h0 h' [b,C]→Q (.cQ []) h')
  (hR:∀rule,kT un (cs,ps,now,bf,gone) x=.inl rule→∀h' tl qs,RS h' b C X tl cs qs→tl[4]?=some (.int .i64 at_)→Fr h0 h' [b,C]→R (.iface 115 (.int .i64 rule)) h'):VX fs ms 64 [.ptr b 0,nt x] h0 Q R:=by
 unfold kT at hQ hR;simp only at hQ hR;refine sA (af:=Ya) rfl (Nat.le_of_ble_eq_true rfl) ?_;conv=>whnf
 refine aj true ?_;conv=>whnf
 have gs:(h0.new (.cells (nt x).cells true 0)).get h0.next=some (.cells (nt x).cells true 0):=an;have cT:Fr h0 (h0.new (.cells (nt x).cells true 0)) []:=(Fr.refl h0 []).new;have n1:h0.next<(h0.new (.cells (nt x).cells true 0)).next:=Nat.lt_succ_self _
 have r1:=r.keep cT hb hC;generalize h0.new (.cells (nt x).cells true 0)=h1 at*;refine az (jV (z:=true) rfl ?_);conv=>whnf
 refine⟨nt x,tU (n:=7) gs (Nat.le_refl _),?_⟩;conv=>whnf
 refine MS r1 (Nat.lt_of_lt_of_le hb cT.next) (Nat.lt_of_lt_of_le hC cT.next) x (fun h2 fq=>?_);conv=>whnf
 have r2:=r1.keep fq (Nat.lt_of_lt_of_le hb cT.next) (Nat.lt_of_lt_of_le hC cT.next);have qM:h2.get h0.next=some (.cells (nt x).cells true 0):=(fq.keep _ n1 (by simp)).trans gs;have n2:=Nat.lt_of_lt_of_le n1 fq.next;have kq:=cT.trans fq;refine qk (fun hs=>?_) (fun hs=>hR 1 (by rw[if_pos hs]) h2 _ ps r2 rfl (kq.wk (by simp)));conv=>whnf
 rw[if_neg (by rw[hs];simp)] at hQ hR;obtain⟨a1,a2,k1,k8,p1,p2,tw,tn⟩:=qy hs;clear r1 gs cT fq hs;refine az (jV (z:=true) rfl ?_);conv=>whnf
 refine⟨_,bA qM rfl,?_⟩;conv=>whnf
 refine Xm r2 (Nat.lt_of_lt_of_le hb kq.next) (Nat.lt_of_lt_of_le hC kq.next) hn (by omega) (fun s hs h3 r3 iB=>?_) (fun rule hs h' tl qs r' ht fr'=>hR rule (by rw[hs]) h' tl qs r' ht (Fr.trans (kq.wk (by simp)) (fr'.wk (by simp))));conv=>whnf
 obtain⟨hsame,FY⟩:=pQ hs;rw[hs] at hQ hR;obtain⟨ps1,Gi,xS,xo⟩:=s;simp only at hQ hR r3 hsame FY;have ab3:=hsame.wf hwf;have rE:h3.get h0.next=some (.cells (nt x).cells true 0):=(iB.keep _ n2 (by simp;omega)).trans qM;have uY:Fr h0 h3 [b,C]:=Fr.trans (kq.wk (by simp)) (iB.wk (by simp));have n3:=Nat.lt_of_lt_of_le n2 iB.next;have QY:=Nat.lt_of_lt_of_le hb uY.next;have hC3:=Nat.lt_of_lt_of_le hC uY.next;clear r2 qM iB kq hs hsame hwf;obtain⟨i,hi,oy,xP⟩:=sx p1 p2;have oe:i<ps1.length:=by have:=r3.le;have:=r3.len;omega
 have hlen:=r3.len;have adW:=hts cs[i] (List.getElem_mem hi);rw[xP] at tn;unfold BN at hQ hR;rw[show x.p.toNat=i by omega,show ps1.getD i mg=ps1[i] by simp[List.getD_eq_getElem?_getD,List.getElem?_eq_getElem oe],show cs.getD i Gt=cs[i] by simp[List.getD_eq_getElem?_getD,List.getElem?_eq_getElem hi]] at hQ hR;unfold zi at hQ hR;have Qv:x.t≠-1→bQ x=false→0≤x.t∧x.t<(cs[i].ts.length:Nat):=fun h1 h2=>by obtain⟨h3,h4⟩:=tn h2;omega
 have Xn:x.k≠1→bQ x=false→0≤x.t∧x.t<(cs[i].ts.length:Nat):=fun h1 h2=>by obtain⟨h3,h4⟩:=tn h2;omega
 refine aj true ?_;conv=>whnf
 refine⟨_,bA rE rfl,?_⟩;conv=>whnf
 rw[oy];refine⟨_,dr (by omega),?_⟩;conv=>whnf
 rw[←oy];have Nv:0+2+i*23=i*23+2:=by omega
 refine az (z6 (z:=true) rfl rfl rfl ?_);conv=>whnf
 refine⟨_,r3.ld oe (f:=0) (by omega) (by omega) rfl,?_⟩;conv=>whnf
 refine⟨_,bA rE rfl,?_⟩;conv=>whnf
 refine qk (fun hs=>?_) (fun hs=>hR 2 (by have hs':(ps1[i].xx !=(x.k==6))=false:=hs;rw[if_pos hs']) h3 _ ps1 r3 rfl uY);conv=>whnf
 have hs':(ps1[i].xx !=(x.k==6))=true:=hs;rw[if_neg (by rw[hs'];simp)] at hQ hR;clear hs';clear hs;refine az (VC.mono (Q:=fun y e h=>(y=.normal∧(x.k !=1||(!xS&&iS (cr ps1 cs.length)==x.p))=true∧h=h3∧aP e [(0,.ptr b 0),(3,.ptr h0.next 0),(4,.ptr b (0+2+i*23))])∨∃v,y=.panic v∧R v h) ?_ ?_)
 ·have hR3:(x.k !=1||(!xS&&iS (cr ps1 cs.length)==x.p))=false→R (.iface 115 (.int .i64 3)) h3:=fun hs=>hR 3 (by rw[if_pos hs]) h3 _ ps1 r3 rfl uY;clear hQ hR;have hM:∀(ok:Bool) (rule:Int) (K R':AV→Heap→Prop),(ok=true→K (.cQ []) h3)→(ok=false→R' (.iface 115 (.int .i64 rule)) h3)→VX fs ms 84 [.bool ok,.int .i64 rule] h3 K R':=fun ok rule K R' hk hr=>qk hk hr;refine JQ (z:=true) rfl rfl ?_;conv=>whnf
  refine⟨_,bA rE rfl,?_⟩;conv=>whnf
  refine br (fun hc=>?_) (fun hc=>?_)<;>(try rw[hc])<;>(conv=>whnf)
  ·refine hM true 3 _ _ (fun ht=>?_) (fun hf=>by simp at hf);refine⟨dc (by(conv=>whnf);repeat' (first|exact trivial|(exact⟨rfl,rfl,.inr ⟨_,_,rfl⟩⟩)|(refine⟨rfl,rfl,.inl ⟨rfl,fun o ho=>?_⟩⟩;cases ho;first|rfl)|(exact⟨rfl,.inr ⟨_,_,rfl⟩⟩)|(refine⟨rfl,.inl ⟨rfl,fun i o hi ho=>?_⟩⟩;cases hi;cases ho;first|rfl)|(refine And.intro (fun dZ=>(Bool.false_ne_true dZ).elim) ?_<;>conv=>whnf)|(refine And.intro (fun _=>?_) ?_<;>conv=>whnf)|(refine And.intro ?_ ?_<;>conv=>whnf))),?_⟩;conv=>whnf
   exact .inl ⟨rfl,by first|rfl|(rw[hc];rfl),rfl,rfl,rfl,rfl,trivial⟩
  ·have h1c:=hc;refine⟨_,r3.AF (f:=2) (by omega) rfl,?_⟩;conv=>whnf
   cases xS with
   |true=>
    conv=>whnf
    refine hM false 3 _ _ (fun ht=>by simp at ht) (fun hf=>?_);refine⟨dc (by(conv=>whnf);repeat' (first|exact trivial|(exact⟨rfl,rfl,.inr ⟨_,_,rfl⟩⟩)|(refine⟨rfl,rfl,.inl ⟨rfl,fun o ho=>?_⟩⟩;cases ho;first|rfl)|(exact⟨rfl,.inr ⟨_,_,rfl⟩⟩)|(refine⟨rfl,.inl ⟨rfl,fun i o hi ho=>?_⟩⟩;cases hi;cases ho;first|rfl)|(refine And.intro (fun dZ=>(Bool.false_ne_true dZ).elim) ?_<;>conv=>whnf)|(refine And.intro (fun _=>?_) ?_<;>conv=>whnf)|(refine And.intro ?_ ?_<;>conv=>whnf))),?_⟩;exact .inr ⟨_,rfl,hR3 (by rw[h1c];rfl)⟩
   |false=>
    conv=>whnf
    refine Ei r3 ?_;conv=>whnf
    refine⟨_,bA rE rfl,?_⟩;conv=>whnf
    refine hM _ 3 _ _ (fun ht=>?_) (fun hf=>?_)
    ·refine⟨dc (by(conv=>whnf);repeat' (first|exact trivial|exact bA rE rfl|(exact⟨rfl,rfl,.inr ⟨_,_,rfl⟩⟩)|(refine⟨rfl,rfl,.inl ⟨rfl,fun o ho=>?_⟩⟩;cases ho;first|rfl|exact bA rE rfl)|(exact⟨rfl,.inr ⟨_,_,rfl⟩⟩)|(refine⟨rfl,.inl ⟨rfl,fun i o hi ho=>?_⟩⟩;cases hi;cases ho;first|rfl|exact bA rE rfl)|(refine And.intro (fun dZ=>(Bool.false_ne_true dZ).elim) ?_<;>conv=>whnf)|(refine And.intro (fun _=>?_) ?_<;>conv=>whnf)|(refine And.intro ?_ ?_<;>conv=>whnf))),?_⟩;conv=>whnf
     exact .inl ⟨rfl,by first|exact ht|(rw[h1c];exact ht),rfl,rfl,rfl,rfl,trivial⟩
    ·refine⟨dc (by(conv=>whnf);repeat' (first|exact trivial|exact bA rE rfl|(exact⟨rfl,rfl,.inr ⟨_,_,rfl⟩⟩)|(refine⟨rfl,rfl,.inl ⟨rfl,fun o ho=>?_⟩⟩;cases ho;first|rfl|exact bA rE rfl)|(exact⟨rfl,.inr ⟨_,_,rfl⟩⟩)|(refine⟨rfl,.inl ⟨rfl,fun i o hi ho=>?_⟩⟩;cases hi;cases ho;first|rfl|exact bA rE rfl)|(refine And.intro (fun dZ=>(Bool.false_ne_true dZ).elim) ?_<;>conv=>whnf)|(refine And.intro (fun _=>?_) ?_<;>conv=>whnf)|(refine And.intro ?_ ?_<;>conv=>whnf))),?_⟩;exact .inr ⟨_,rfl,hR3 (by rw[h1c];exact hf)⟩
 rintro y e h (⟨rfl,Wc,rfl,he⟩|⟨v,rfl,hr⟩)
 rotate_left
 ·exact hr
 rw[if_neg (by rw[Wc];simp)] at hQ hR;clear Wc;show VC fs ms _ _ _ _ _ _;refine ak 5 _ he ?_;clear he;refine az (jV (z:=true) rfl ?_);conv=>whnf
 refine⟨nt x,tU (n:=7) rE (Nat.le_refl _),?_⟩;conv=>whnf
 refine Qt r3 QY hC3 oe Nv x (fun hw ht=>by have:=Qv ht hw;omega) (fun hk=>by have:=Xn (by omega) (by simp[bQ,hk]);omega) (fun h4 jY=>?_);conv=>whnf
 have r4:=r3.keep jY QY hC3;have vK:h4.get h0.next=some (.cells (nt x).cells true 0):=(jY.keep _ n3 (by simp)).trans rE;have n4:=Nat.lt_of_lt_of_le n3 jY.next;have wg:Fr h0 h4 [b,C]:=uY.trans (jY.wk (by simp));have Sg:=Nat.lt_of_lt_of_le hb wg.next;have Vn:=Nat.lt_of_lt_of_le hC wg.next;refine qk (fun hs=>?_) (fun hs=>hR 5 (by rw[if_pos hs]) h4 _ ps1 r4 rfl wg);conv=>whnf
 rw[if_neg (by rw[hs];simp)] at hQ hR;clear hs r3 rE jY uY QY hC3 n3;refine az (aj true ?_);conv=>whnf
 refine⟨nt x,tU (n:=7) vK (Nat.le_refl _),?_⟩;conv=>whnf
 refine au (Da x) ?_;conv=>whnf
 cases hw:bQ x with
 |true=>
  rw[if_pos hw] at hQ;refine aa (z:=true) ?_;conv=>whnf
  refine⟨nt x,tU (n:=7) vK (Nat.le_refl _),?_⟩;conv=>whnf
  refine TN r4 Sg Vn hi oe Nv x oy hw (fun h5 r5 k9=>?_);conv=>whnf
  exact⟨_,rfl,hQ _ rfl h5 r5 (wg.trans k9)⟩
 |false=>
  rw[if_neg (by rw[hw];simp)] at hQ hR;refine aa (z:=true) ?_;conv=>whnf
  have hidx:x.t≠-1→pV (.aE 8) [.fz cs[i].k (dI cs[i].ts),.int .i64 x.t]=some (.fp (tk (cs[i].ts.getD x.t.toNat jv)).cells 0):=fun h=>by
   obtain⟨t0,t1⟩:=Qv h hw;have hj:x.t.toNat<cs[i].ts.length:=by omega
   have:=iP (k:=cs[i].k) hj;rw[show((x.t.toNat:Nat):Int)=x.t by omega] at this;rw[this];simp[List.getD_eq_getElem?_getD,List.getElem?_eq_getElem hj]
  generalize cs[i].ts.getD x.t.toNat jv=T at*;have Vp:∀rule,eu ps1[i] x T=rule→rule≠0→(x.t !=-1)=true→∀h',Fr h4 h' []→R (.iface 115 (.int .i64 rule)) h':=fun rule he hne ht h' f=>
   hR rule (by rw[if_pos (by rw[ht,Bool.true_and,he];simpa using hne),he]) h' _ ps1 (r4.keep f Sg Vn) rfl (wg.trans (f.wk (by simp)))
  refine az (VC.mono (Q:=fun y e h=>(y=.normal∧(x.t !=-1&&eu ps1[i] x T !=0)=false∧Fr h4 h []∧aP e [(0,.ptr b 0),(3,.ptr h0.next 0),(4,.ptr b (0+2+i*23))])∨∃v,y=.panic v∧R v h) ?_ ?_)
  ·refine aj true ?_;conv=>whnf
   refine⟨_,bA vK rfl,?_⟩;conv=>whnf
   clear hQ hR;cases et:(x.t !=-1) with
   |true=>
    have hne:x.t≠-1:=by simpa using et
    have ht:=Qv hne hw;refine b9 ?_;conv=>whnf
    refine z6 (z:=true) rfl rfl rfl ?_;conv=>whnf
    refine⟨nt x,tU (n:=7) vK (Nat.le_refl _),?_⟩;conv=>whnf
    refine⟨_,bA r4.st rfl,?_⟩;conv=>whnf
    refine⟨_,bA vK rfl,?_⟩;conv=>whnf
    rw[oy];refine⟨_,gI hi,?_⟩;conv=>whnf
    refine⟨_,r4.Nz hi (f:=2) (by omega) (by omega) rfl,?_⟩;conv=>whnf
    refine⟨_,bA vK rfl,?_⟩;conv=>whnf
    refine⟨_,hidx hne,?_⟩;conv=>whnf
    refine⟨tk T,rfl,?_⟩;conv=>whnf
    refine M6 r4 Sg Vn oe Nv x T (by omega) (fun Un h5 k9=>?_) (fun rule he hne h5 k9=>.inr ⟨_,rfl,Vp rule he hne et h5 k9⟩);conv=>whnf
    exact .inl ⟨rfl,by first|(rw[Un];rfl)|(rw[et,Un];rfl),k9,rfl,rfl,rfl,trivial⟩
   |false=>
    refine aa (z:=true) ?_;conv=>whnf
    exact .inl ⟨rfl,by first|rfl|(rw[et];rfl),Fr.refl _ _,rfl,rfl,rfl,trivial⟩
  rintro y e h5 (⟨rfl,Zg,k9,he⟩|⟨v,rfl,hr⟩)
  rotate_left
  ·exact hr
  rw[if_neg (by rw[Zg];simp)] at hQ hR;clear Zg Vp;show VC fs ms _ _ _ _ _ _;refine ak 4 _ he ?_;clear he;have r5:=r4.keep k9 Sg Vn;have Aw:h5.get h0.next=some (.cells (nt x).cells true 0):=(k9.keep _ n4 (by simp)).trans vK;have n5:=Nat.lt_of_lt_of_le n4 k9.next;have rC:Fr h0 h5 [b,C]:=wg.trans (k9.wk (by simp));have Sh:=Nat.lt_of_lt_of_le hb rC.next;have hC5:=Nat.lt_of_lt_of_le hC rC.next;clear r4 vK k9 wg Sg Vn n4;refine az (jV (z:=true) rfl ?_);conv=>whnf
  refine⟨nt x,tU (n:=7) Aw (Nat.le_refl _),?_⟩;conv=>whnf
  refine MT r5 Sh hC5 ab3 hi x oy (fun hk=>Xn (by omega) hw) (fun h6 tG=>?_);conv=>whnf
  have r6:=r5.keep tG Sh hC5;have Vm:h6.get h0.next=some (.cells (nt x).cells true 0):=(tG.keep _ n5 (by simp)).trans Aw;have n6:=Nat.lt_of_lt_of_le n5 tG.next;have IQ:Fr h0 h6 [b,C]:=rC.trans (tG.wk (by simp));have YU:=Nat.lt_of_lt_of_le hb IQ.next;have hC6:=Nat.lt_of_lt_of_le hC IQ.next;refine qk (fun hs=>?_) (fun hs=>hR 8 (by have hs':eS cs ps1 ps1[i] x=false:=hs;rw[if_pos hs']) h6 _ ps1 r6 rfl IQ);conv=>whnf
  have hs':eS cs ps1 ps1[i] x=true:=hs;rw[if_neg (by rw[hs'];simp)] at hQ;clear hs' hR;have hQ2:∀p1,(if(x.k==1)=true then{ps1[i] with bf:=IntKind.i64.wrap (ps1[i].bf+1)} else ps1[i])=p1→∀p2,(if(x.t !=-1)=true then rm p1 x T else p1)=p2→∀h',RS h' b C X (tI un Gi (xS||x.k==1) xo at_) cs (ps1.set i p2)→Fr h6 h' [b]→Q (.cQ []) h':=by
   intro p1 e1 p2 e2 h' r' f;subst e1;subst e2;exact hQ _ rfl h' r' (IQ.trans (f.wk (by simp)))
  clear hQ;refine az (VC.mono (Q:=fun y e h=>y=.normal∧Fr h6 h [b]∧RS h b C X (tI un Gi (xS||x.k==1) xo at_) cs (ps1.set i (if(x.k==1)=true then{ps1[i] with bf:=IntKind.i64.wrap (ps1[i].bf+1)} else ps1[i]))∧aP e [(0,.ptr b 0),(3,.ptr h0.next 0),(4,.ptr b (0+2+i*23))]) ?_ ?_)
  ·clear hQ2;refine aj true ?_;conv=>whnf
   refine⟨_,bA Vm rfl,?_⟩;conv=>whnf
   cases e1:(x.k==1) with
   |true=>
    refine aa (z:=true) ?_;conv=>whnf
    obtain⟨h7,s7,r7,yM⟩:=r6.xR (v:=.bool true) (f:=2) (o:=0+96) (tl':=tI un Gi true xo at_) (by omega) rfl (by simp[tI]) rfl rfl;refine aT s7 fun YT e7=>?_;subst e7;conv=>whnf
    refine⟨_,r7.ld oe (f:=4) (by omega) (by omega) rfl,?_⟩;conv=>whnf
    obtain⟨h8,s8,r8,Ve⟩:=r7.put (v:=.int .i64 (IntKind.i64.wrap (ps1[i].bf+1))) (n:=1) (p':={ps1[i] with bf:=IntKind.i64.wrap (ps1[i].bf+1)}) oe (f:=4) (o:=0+2+i*23+4) (by omega) rfl (by omega) rfl rfl;refine aT s8 fun h8' e8=>?_;subst e8;conv=>whnf
    refine⟨rfl,yM.trans Ve,?_,rfl,rfl,rfl,trivial⟩;rw[Bool.or_true,if_pos rfl];exact r8
   |false=>
    refine aa (z:=true) ?_;conv=>whnf
    refine⟨rfl,Fr.refl _ _,?_,rfl,rfl,rfl,trivial⟩;rw[Bool.or_false,if_neg (by simp)];exact r6.nV oe
  rintro y e h7 ⟨rfl,yM,r7,he⟩;have hQ3:=hQ2 _ rfl;clear hQ2;generalize(if(x.k==1)=true then{ps1[i] with bf:=IntKind.i64.wrap (ps1[i].bf+1)} else ps1[i])=p1 at*;show VC fs ms _ _ _ _ _ _;refine ak 4 _ he ?_;clear he;have YP:h7.get h0.next=some (.cells (nt x).cells true 0):=(yM.keep _ n6 (by simp;omega)).trans Vm;have hb7:=Nat.lt_of_lt_of_le YU yM.next;have hC7:=Nat.lt_of_lt_of_le hC6 yM.next;refine aj true ?_;conv=>whnf
  refine⟨_,bA YP rfl,?_⟩;conv=>whnf
  cases et:(x.t !=-1) with
  |true=>
   have hne:x.t≠-1:=by simpa using et
   have ht:=Qv hne hw;have hQ4:=hQ3 _ (if_pos et);refine aa (z:=true) ?_;conv=>whnf
   refine⟨nt x,tU (n:=7) YP (Nat.le_refl _),?_⟩;conv=>whnf
   refine⟨_,bA r7.st rfl,?_⟩;conv=>whnf
   refine⟨_,bA YP rfl,?_⟩;conv=>whnf
   rw[oy];refine⟨_,gI hi,?_⟩;conv=>whnf
   refine⟨_,r7.Nz hi (f:=2) (by omega) (by omega) rfl,?_⟩;conv=>whnf
   refine⟨_,bA YP rfl,?_⟩;conv=>whnf
   refine⟨_,hidx hne,?_⟩;conv=>whnf
   refine⟨tk T,rfl,?_⟩;conv=>whnf
   refine RN r7 hb7 hC7 (i:=i) (by rw[List.length_set];exact oe) Nv x T (by omega) (fun h8 r8 Ve=>?_);conv=>whnf
   rw[List.getElem_set_self,List.set_set] at r8;exact⟨_,rfl,hQ4 h8 r8 (yM.trans Ve)⟩
  |false=>
   have hQ4:=hQ3 _ (if_neg (by rw[et];simp));refine aa (z:=true) ?_;conv=>whnf
   exact⟨_,rfl,hQ4 h7 r7 yM⟩
end Ir
end Go.Proofs.Ytepdklcpagielaa
