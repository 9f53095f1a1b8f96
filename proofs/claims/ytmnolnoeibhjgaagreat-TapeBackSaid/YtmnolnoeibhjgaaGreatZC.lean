/-
  Tape: which commands may be written. Tape: the document's check. Tape: numbers as bytes: the program's Put. Tape: texts as bytes; the document's Put. Tape: a command's bytes, as the program makes them. Tape: a command's bytes, as the document makes them; tapes of commands.
-/
import Derived.Test.YtmnolnoeibhjgaaGreatZB
set_option maxRecDepth 100000
set_option linter.unusedSimpArgs false
set_option linter.unusedVariables false
namespace Go.Proofs.YtmnolnoeibhjgaaGreat
open Go Ads
namespace Ir
structure nq where
 k:Int
 n:Int
 s:List UInt8
 deriving DecidableEq
structure bu where
 k:Int
 p:Int
 t:Int
 n:Int
 m:Int
 kk:Nat
 ops:List nq
def top(o:nq):AV:=.agg [.int .i64 o.k,.int .i64 o.n,.str o.s]
def b9(l:List nq):List AV:=l.map top
theorem bq(l:List nq):(b9 l).length=l.length:=List.length_map ..
theorem dK(l:List nq):aL 3 (b9 l)=true:=ef (enc:=top) (fun _=>rfl) l
theorem iM(l:List nq):e9 (b9 l)=true:=nC (enc:=top) (fun _=>rfl) l
theorem nJ{l:List nq}{j k:Nat}(hj:j<l.length):pV (.aB 3) [.fz k (b9 l),.int .i64 (j:Nat)]=some (.fp (top l[j]).cells 0):=uI (enc:=top) hj rfl
def dG(x:bu):AV:=.agg [.int .i64 x.k,.int .i64 x.p,.int .i64 x.t,.int .i64 x.n,.int .i64 x.m,.fz x.kk (b9 x.ops)]
def dA(l:List bu):List AV:=l.map dG
theorem cD(l:List bu):(dA l).length=l.length:=List.length_map ..
theorem iX(l:List bu):aL 6 (dA l)=true:=ef (enc:=dG) (fun _=>rfl) l
theorem mq(x:bu):(dG x).cl=true:=by simp[dG,AV.cl,e9,iM]
theorem pT(l:List bu):e9 (dA l)=true:=nC (enc:=dG) mq l
theorem nI{l:List bu}{j k:Nat}(hj:j<l.length):pV (.aB 6) [.fz k (dA l),.int .i64 (j:Nat)]=some (.fp (dG l[j]).cells 0):=uI (enc:=dG) hj rfl
def cr(n:Int):Bool:=decide (n<0)||decide (n>9007199254740991)
theorem Nz(n:Int):PC fs ms 44 [.int .i64 n] (.bool (cr n)):=by
 refine mb rfl rfl ?_;refine bN (af:=Tp) false rfl (Nat.le_of_ble_eq_true rfl) ?_;generalize hQ:(fun(v:AV) (_:Heap)=>v=.bool (cr n))=Q;conv=>whnf
 refine br (fun hc=>?_) (fun hc=>?_)<;>(try rw[hc])<;>(conv=>whnf)
 ·subst hQ;simp only[cr,hc,Bool.true_or]
 ·subst hQ;simp only[cr,hc,Bool.false_or]
theorem wj(n:Int):PC fs ms 24 [.int .i64 n] (.bool (!cr n)):=by
 refine mb rfl rfl ?_;refine bN (af:=Tc) false rfl (Nat.le_of_ble_eq_true rfl) ?_;generalize hQ:(fun(v:AV) (_:Heap)=>v=.bool (!cr n))=Q;conv=>whnf
 refine br (fun hc=>?_) (fun hc=>?_)<;>(try rw[hc])<;>(conv=>whnf)
 ·subst hQ;have h1:¬n<0:=by simpa using hc
  simp only[cr,h1,decide_false,Bool.false_or]
  congr 1
  by_cases h2:n≤9007199254740991
  ·have:¬n>9007199254740991:=by omega
   simp[h2,this]
  ·have:n>9007199254740991:=by omega
   simp[h2,this]
 ·subst hQ;have h1:n<0:=by have:=of_decide_eq_false hc;omega
  simp[cr,h1]
def vr:AV:=.func (.func 44) [] []
def vK(l:List Int):Int:=if l.any cr then(l.findIdx cr:Nat) else-1
theorem Hu(k:Nat)(l:List Int)(hl:l.length<2^62):PC fs ms 71 [.fz k (ints l),vr] (.int .i64 (vK l)):=by
 refine mb (by simp[e9,AV.cl,jK,vr]) rfl ?_;refine bN (af:=TD) false rfl (Nat.le_of_ble_eq_true rfl) ?_;generalize hQ:(fun(v:AV) (_:Heap)=>v=.int .i64 (vK l))=Q;unfold vr;conv=>whnf
 refine z5 4 [(8,.int .i64 (0:Nat)),(7,.int .i64 (l.length:Nat)),(0,.fz k (ints l)),(1,.func (.func 44) [] [])] ⟨⟨_,rfl,.cl rfl⟩,⟨_,by rw[←jW];rfl,.cl rfl⟩,⟨_,rfl,.cl (by simp[AV.cl,jK])⟩,⟨_,rfl,.cl rfl⟩,trivial⟩ ?_;refine DB 4 l.length (fun j=>(l.take j).any cr=false) (fun j=>[(8,.int .i64 (j:Nat)),(7,.int .i64 (l.length:Nat)),(0,.fz k (ints l)),(1,.func (.func 44) [] [])]) ?_ ?_ rfl
 ·intro j hj hi;conv=>whnf
  refine ny (by simpa using hj) (fun hc=>?_)
  (try rw[hc])
  conv=>whnf
  refine⟨_,zm hj,?_⟩;conv=>whnf
  refine cC (Nz l[j]) ?_;conv=>whnf
  refine br (fun hc=>?_) (fun hc=>?_)<;>(try rw[hc])<;>(conv=>whnf)
  ·subst hQ;have Xu:l.any cr=true:=List.any_eq_true.2 ⟨_,List.getElem_mem hj,hc⟩;rw[vK,if_pos Xu]
   congr 2
   refine Eq.symm ((List.findIdx_eq hj).2 ⟨hc,fun i hi'=>?_⟩);cases hb:cr l[i] with
   |false=>rfl
   |true=>
    have:(l.take j).any cr=true:=List.any_eq_true.2 ⟨l[i],List.mem_take_iff_getElem.2 ⟨i,by omega,rfl⟩,hb⟩;rw[hi] at this;exact absurd this (by decide)
  ·refine⟨?_,mZ (bC (by omega)) rfl (by repeat' (first|exact trivial|refine By rfl (by omega) ?_|refine yD rfl (by omega) ?_|refine uh rfl (by omega) ?_|refine mZ rfl (by first|rfl|simp[e9,AV.cl,jK]) ?_|refine mZ (bC (by omega)) rfl ?_))⟩;rw[List.take_succ_eq_append_getElem hj,List.any_append,hi];simp[hc]
 ·intro hi;rw[List.take_length] at hi;conv=>whnf
  refine k7 (by simp) (fun hc=>?_)
  (try rw[hc])
  conv=>whnf
  subst hQ;rw[vK,hi,if_neg (by decide)]
theorem Gf(k:Nat)(l:List Int)(hl:l.length<2^62):PC fs ms 43 [.fz k (ints l),vr] (.bool (l.any cr)):=by
 refine mb (by simp[e9,AV.cl,jK,vr]) rfl ?_;refine bN (af:=To) false rfl (Nat.le_of_ble_eq_true rfl) ?_;generalize hQ:(fun(v:AV) (_:Heap)=>v=.bool (l.any cr))=Q;have hc:=Hu k l hl;unfold vr at hc⊢;conv=>whnf
 refine cC hc ?_;conv=>whnf
 subst hQ
 congr 1
 rw[vK];cases l.any cr with
 |true=>simp
 |false=>simp
theorem HN(k:Nat)(l:List Int)(hl:l.length<2^62):PC fs ms 23 [.fz k (ints l)] (.bool (!l.any cr)):=by
 refine mb (by simp[e9,AV.cl,jK]) rfl ?_;refine bN (af:=Tb) false rfl (Nat.le_of_ble_eq_true rfl) ?_;generalize hQ:(fun(v:AV) (_:Heap)=>v=.bool (!l.any cr))=Q;have hc:=Gf k l hl;unfold vr at hc;conv=>whnf
 refine cC hc ?_;conv=>whnf
 subst hQ;rfl
def rL(o:nq):Int:=if cr o.k||cr o.n then 2 else if 16<o.s.length then 5 else 0
def sG:List nq→Int
 |[]=>0
 |o::l=>if rL o=0 then sG l else rL o
def m9(x:bu):Int:=if cr x.k||cr x.p||cr x.t||cr x.n||cr x.m then 2 else if 32<x.ops.length then 5 else sG x.ops
theorem DV{l:List nq}{j:Nat}(hj:j<l.length):sG (l.drop j)=if rL l[j]=0 then sG (l.drop (j+1)) else rL l[j]:=by
 rw[List.drop_eq_getElem_cons hj];rfl
theorem yw:∀{l:List nq},sG l=0→∀o∈l,rL o=0
 |[],_,o,ho=>by simp at ho
 |a::l,h,o,ho=>by
  simp only[sG] at h;by_cases ha:rL a=0
  ·rw[if_pos ha] at h;rcases List.mem_cons.1 ho with rfl|ho
   ·exact ha
   ·exact yw h o ho
  ·rw[if_neg ha] at h;exact absurd h ha
theorem F8(x:bu)(hl:x.ops.length<2^62):PC fs ms 7 [dG x] (.int .i64 (m9 x)):=by
 refine mb (by simp[e9,mq]) rfl ?_;refine bN (af:=C7) false rfl (Nat.le_of_ble_eq_true rfl) ?_;generalize hQ:(fun(v:AV) (_:Heap)=>v=.int .i64 (m9 x))=Q;conv=>whnf
 refine z6 (HN 2 [x.k,x.p,x.t,x.n,x.m] (by simp)) rfl (.cons (.row (s:=1) trivial rfl rfl rfl rfl (Nat.le_refl _) (by omega) (fun _=>rfl) (fun _=>rfl) rfl) .nil) ?_;conv=>whnf
 refine br (fun hc=>?_) (fun hc=>?_)<;>(try rw[hc])<;>(conv=>whnf)
 ·subst hQ;have:(cr x.k||cr x.p||cr x.t||cr x.n||cr x.m)=true:=by simpa[Bool.or_assoc] using hc
  rw[m9,if_pos this]
 ·have h1:(cr x.k||cr x.p||cr x.t||cr x.n||cr x.m)=false:=by simpa[Bool.or_assoc] using hc
  refine br (fun hc=>?_) (fun hc=>?_)<;>(try rw[hc])<;>(conv=>whnf)
  ·subst hQ;have h2:32<x.ops.length:=by have:=of_decide_eq_true hc;rw[bq] at this;omega
   rw[m9,if_neg (by rw[h1];decide),if_pos h2]
  ·have h2:¬32<x.ops.length:=by have:=of_decide_eq_false hc;rw[bq] at this;omega
   have hx:m9 x=sG x.ops:=by rw[m9,if_neg (by rw[h1];decide),if_neg h2]
   rw[hx] at hQ;refine z5 5 [(27,.int .i64 (0:Nat)),(26,.int .i64 (x.ops.length:Nat)),(25,.fz x.kk (b9 x.ops))] ⟨⟨_,rfl,.cl rfl⟩,⟨_,by rw[←bq];rfl,.cl rfl⟩,⟨_,rfl,.cl (by simp[AV.cl,iM])⟩,trivial⟩ ?_;refine DB 5 x.ops.length (fun j=>sG x.ops=sG (x.ops.drop j)) (fun j=>[(27,.int .i64 (j:Nat)),(26,.int .i64 (x.ops.length:Nat)),(25,.fz x.kk (b9 x.ops))]) ?_ ?_ rfl
   ·intro j hj hi;rw[DV hj] at hi;have lV:=nJ (k:=x.kk) hj;generalize x.ops[j]=o at*;conv=>whnf
    refine ny (by simpa using hj) (fun hc=>?_)
    (try rw[hc])
    conv=>whnf
    refine⟨_,lV,?_⟩;conv=>whnf
    refine z6 (HN 2 [o.k,o.n] (by simp)) rfl (.cons (.row (s:=1) trivial rfl rfl rfl rfl (Nat.le_refl _) (by omega) (fun _=>rfl) (fun _=>rfl) rfl) .nil) ?_;conv=>whnf
    refine br (fun hc=>?_) (fun hc=>?_)<;>(try rw[hc])<;>(conv=>whnf)
    ·subst hQ;have h3:(cr o.k||cr o.n)=true:=by simpa using hc
     have h4:rL o=2:=by rw[rL,if_pos h3]
     rw[hi,h4];rfl
    ·have h3:(cr o.k||cr o.n)=false:=by simpa using hc
     refine br (fun hc=>?_) (fun hc=>?_)<;>(try rw[hc])<;>(conv=>whnf)
     ·subst hQ;have h4:16<o.s.length:=by have:=of_decide_eq_true hc;omega
      have h5:rL o=5:=by rw[rL,if_neg (by rw[h3];decide),if_pos h4]
      rw[hi,h5];rfl
     ·have h4:¬16<o.s.length:=by have:=of_decide_eq_false hc;omega
      have h5:rL o=0:=by rw[rL,if_neg (by rw[h3];decide),if_neg h4]
      rw[h5,if_pos rfl] at hi;exact⟨hi,mZ (bC (by omega)) rfl (by repeat' (first|exact trivial|refine By rfl (by omega) ?_|refine yD rfl (by omega) ?_|refine uh rfl (by omega) ?_|refine mZ rfl (by first|rfl|simp[e9,AV.cl,jK,iM]) ?_|refine mZ (bC (by omega)) rfl ?_))⟩
   ·intro hi;rw[List.drop_length] at hi;conv=>whnf
    refine k7 (by simp) (fun hc=>?_)
    (try rw[hc])
    conv=>whnf
    subst hQ;rw[hi];rfl
theorem Bx(x:bu)(hl:x.ops.length<2^62):PC fs ms 8 [dG x] (.int .i64 (m9 x)):=by
 refine mb (by simp[e9,mq]) rfl ?_;refine bN (af:=C8) false rfl (Nat.le_of_ble_eq_true rfl) ?_;generalize hQ:(fun(v:AV) (_:Heap)=>v=.int .i64 (m9 x))=Q;have oy:(cr x.k||cr x.p||cr x.t||cr x.n||cr x.m)=true→m9 x=2:=fun h=>by rw[m9,if_pos h]
 have vD:(cr x.k||cr x.p||cr x.t||cr x.n||cr x.m)=false→m9 x=if 32<x.ops.length then 5 else sG x.ops:=fun h=>by rw[m9,if_neg (by rw[h];decide)]
 generalize m9 x=C at*;conv=>whnf
 iterate 14 (all_goals (first|(refine cC (wj _) ?_;conv=>whnf)|(refine br (fun hc=>?_) (fun hc=>?_)<;>(try rw[hc])<;>(conv=>whnf))|skip))
 iterate 5 (first|(subst hQ;(simp only[Bool.not_not] at*);rw[oy (by simp only[*,Bool.true_or,Bool.or_true])])|skip)
 ·subst hQ;have h2:32<x.ops.length:=by have:=of_decide_eq_true hc;rw[bq] at this;omega
  simp only[Bool.not_not] at*;rw[vD (by simp only[*,Bool.or_self]),if_pos h2]
 ·have h2:¬32<x.ops.length:=by have:=of_decide_eq_false hc;rw[bq] at this;omega
  simp only[Bool.not_not] at*;have hx:=vD (by simp only[*,Bool.or_self]);rw[if_neg h2] at hx;subst hx;clear vD oy;have h32:x.ops.length<2^62:=hl;refine PJ (B:=0) (d:=3) (l:=[(1,.ptr 0 0),(3,.int .i64 (0:Nat))]) (G3 (.cells (dG x).cells true 0)) id ⟨⟨_,rfl,.ptr (by omega)⟩,⟨_,rfl,.cl rfl⟩,trivial⟩ ⟨by omega,⟨_,rfl,uN rfl (gB (mq x))⟩,trivial⟩ (by intro b c hb hc _;simp at hb hc;omega) (by intro b hb;omega) (by omega) ?_;refine GB 0 3 x.ops.length (fun j=>sG x.ops=sG (x.ops.drop j)) (fun j=>[(1,.ptr 0 0),(3,.int .i64 (j:Nat))]) (fun _=>⟨1,.node .nil (some (.cells (dG x).cells true 0)) .nil⟩) ?_ ?_ rfl
  ·intro j hj hi;rw[DV hj] at hi;have lV:=nJ (k:=x.kk) hj;generalize hO:x.ops[j]=o at*;conv=>whnf
   refine ny (by simpa[bq] using hj) (fun hc=>?_)
   (try rw[hc])
   conv=>whnf
   refine⟨_,lV,?_⟩;conv=>whnf
   refine cC (wj _) ?_;conv=>whnf
   have xo:cr o.k=true∨cr o.n=true→rL o=2:=fun h=>by rw[rL,if_pos (by simpa using h)]
   have Zl:cr o.k=false→cr o.n=false→rL o=if 16<o.s.length then 5 else 0:=fun h1 h2=>by rw[rL,if_neg (by rw[h1,h2];decide)]
   refine br (fun hc=>?_) (fun hc=>?_)<;>(try rw[hc])<;>(conv=>whnf)
   ·subst hQ;rw[hi,xo (.inl (by simpa using hc))];rfl
   ·have hc0:cr o.k=false:=by simpa using hc
    refine⟨_,lV,?_⟩;conv=>whnf
    refine cC (wj _) ?_;conv=>whnf
    refine br (fun hc=>?_) (fun hc=>?_)<;>(try rw[hc])<;>(conv=>whnf)
    ·subst hQ;rw[hi,xo (.inr (by simpa using hc))];rfl
    ·refine⟨_,lV,?_⟩;conv=>whnf
     have h3:=Zl hc0 (by simpa using hc);refine br (fun hc=>?_) (fun hc=>?_)<;>(try rw[hc])<;>(conv=>whnf)
     ·subst hQ;have h4:16<o.s.length:=by have:=of_decide_eq_true hc;omega
      rw[if_pos h4] at h3;rw[hi,h3];rfl
     ·have h4:¬16<o.s.length:=by have:=of_decide_eq_false hc;omega
      rw[if_neg h4] at h3;rw[h3,if_pos rfl] at hi;refine⟨hi,id,NY (G3 (.cells (dG x).cells true 0)) _ ⟨⟨_,rfl,.ptr (by omega)⟩,⟨_,bC (by omega),.cl rfl⟩,trivial⟩ ⟨by omega,⟨_,rfl,uN rfl (gB (mq x))⟩,trivial⟩ (by intro b c hb hc _;simp at hb hc;omega) (by intro b hb;omega) (by omega)⟩
  ·intro hi;rw[List.drop_length] at hi;conv=>whnf
   refine k7 (by simp[bq]) (fun hc=>?_)
   (try rw[hc])
   conv=>whnf
   subst hQ;rw[hi];rfl
end Ir
end Go.Proofs.YtmnolnoeibhjgaaGreat
namespace Go.Proofs.YtmnolnoeibhjgaaGreat
open Go Ads
namespace Ads
theorem Nx{h:Heap}{s bytes b m n:Nat}{vs cs:List AV}{x:AV}(hg:h.get b=some (.cells vs true s))(hv:vs.length=m*s)(hsrc:eY s h x=some (n+1,cs))(hf:bz cs=true)(hb:(m+(n+1))*bytes≤140737488355328)(hm:m+(n+1)≤140737488355328):
  eV (.append s bytes) [.sl b 0 m m true,x] h=some (.sl h.next 0 (m+(n+1)) (m+(n+1)) true,(h.del b).new (.cells (vs++cs) true s)):=by
 have b1:Nat.ble (m+(n+1)) m=false:=by cases hb:Nat.ble (m+(n+1)) m with|false=>rfl|true=>(have:=Nat.le_of_ble_eq_true hb;omega)
 have b2:Nat.ble ((m+(n+1))*bytes) 140737488355328=true:=Nat.ble_eq_true_of_le hb;have b3:Nat.ble (m+(n+1)) 9223372036854775807=true:=Nat.ble_eq_true_of_le (by omega);have b4:Nat.ble (0+m*s) vs.length=true:=Nat.ble_eq_true_of_le (by omega);have b5:Nat.beq vs.length (0+m*s)=true:=by rw[hv,Nat.zero_add];exact Nat.beq_refl _
 have qI:h.bt b 0 (m*s)=some vs:=by
  simp only[Heap.bt,Heap.row,hg,b4,cond_true,List.drop_zero];rw[←hv,List.take_length]
 simp only[eV,l2,hsrc];show cond (bz cs) _ _=_;rw[hf,cond_true];show cond (Nat.beq (n+1) 0&&Nat.ble m m) _ _=_;rw[show Nat.beq (n+1) 0=false from rfl,Bool.false_and,cond_false,b1,cond_false,b2,b3,Bool.and_self,cond_true,hg,qI];show cond true (cond (true&&Nat.beq vs.length (0+m*s)&&Nat.beq m m&&Nat.beq s s) _ _) _=_;rw[b5,Nat.beq_refl,Nat.beq_refl];rfl
theorem GR.QN{s bytes lo:Nat}{h:Heap}{v x:AV}{M X:List AV}(hr:GR s lo h v M)(hlo:lo≤h.next)(hsrc:eY s h x=some (X.length,ak X))(hf:bz (ak X)=true)(hs:aL s M=true)(hl:(M.length+X.length)*bytes≤140737488355328)(hm:M.length+X.length≤140737488355328):
  ∃v' g',eV (.append s bytes) [v,x] h=some (v',g')∧GR s lo g' v' (M++X)∧h.next≤g'.next∧∀c,c<lo→g'.get c=h.get c:=by
 rcases hr with⟨rfl,rfl⟩|⟨kD,b,h1,h2,rfl,h4⟩
 ·have:=kJ (bytes:=bytes) hsrc hf (by simpa using hl) (by simpa using hm);by_cases hz:X.length=0
  ·rw[if_pos hz] at this;have hX:X=[]:=List.eq_nil_of_length_eq_zero hz;subst hX;exact⟨_,_,this,.inl ⟨rfl,rfl⟩,Nat.le_refl _,fun c _=>rfl⟩
  ·rw[if_neg hz] at this;exact⟨_,_,this,.inr ⟨fun h=>hz (by rw[List.nil_append] at h;rw[h];rfl),h.next,hlo,Nat.lt_succ_self _,rfl,au⟩,Nat.le_succ _,fun c hc=>aF (by omega)⟩
 ·cases X with
  |nil=>
   refine⟨.sl b 0 M.length M.length true,h,?_,.inr ⟨by simpa using kD,b,h1,h2,by simp,by simpa using h4⟩,Nat.le_refl _,fun c _=>rfl⟩;have R8:eY s h x=some (0,ak []):=hsrc;simp only[eV,l2,R8];show cond (bz (ak [])) (cond (Nat.beq 0 0&&Nat.ble M.length M.length) _ _) _=_;rw[hf,Nat.ble_eq_true_of_le (Nat.le_refl _)];rfl
  |cons y X=>
   refine⟨_,_,Nx (n:=X.length) h4 (gX hs) hsrc hf hl hm,.inr ⟨by simp,h.next,hlo,Nat.lt_succ_self _,by rw[List.length_append];rfl,?_⟩,Nat.le_succ _,fun c hc=>?_⟩
   ·have:=au (h:=h.del b) (x:=.cells (ak M++ak (y::X)) true s);rw[show(h.del b).next=h.next from rfl] at this;rw[this,lg]
   ·have hne:c≠b:=by omega
    exact(aF (h:=h.del b) (show c<h.next by omega)).trans (jT hne)
theorem jr.mono{P P':Nat→Prop}(hp:∀b,P b→P' b){g:Heap}{v v':AV}(h:jr P g v v'):jr P' g v v':=by
 induction h with
 |clean h=>exact .clean h
 |agg h _ ih=>exact .agg h ih
 |dO h _ ih=>exact .dO h ih
 |iface _ ih=>exact .iface ih
 |az=>exact .az
 |func h _ h' _ ih ih'=>exact .func h ih h' ih'
 |ptr hb hg ho hl _ ih=>exact .ptr (hp _ hb) hg ho hl ih
 |sl hb hg hs hn hl hc hk h1 h2 _ ih=>exact .sl (hp _ hb) hg hs hn hl hc hk h1 h2 ih
theorem Fr.app{h0 h g:Heap}(fr:Fr h0 h [])(hn:h.next≤g.next)(hk:∀c,c<h0.next→g.get c=h.get c):Fr h0 g []:=⟨Nat.le_trans fr.next hn,fun c hc hb=>(hk c hc).trans (fr.keep c hc hb)⟩
theorem Ed(x:Int){n:Nat}(h:n≤64):pV (.bin .shr) [.int .i64 x,.int .i64 (n:Nat)]=some (.int .i64 (x.fdiv (2^n))):=by
 have:¬((n:Int)<0):=by omega
 simp[pV,Kh,l2,Cc,y6,jL,mM,this,Nat.min_eq_left (show n≤IntKind.i64.bits from h)]
end Ads
namespace Ir
def eD(l:List Int):List AV:=l.map (AV.int .u8)
theorem cq(l:List Int):(eD l).length=l.length:=List.length_map ..
theorem lG(l:List Int):aL 1 (eD l)=true:=ef (enc:=AV.int .u8) (fun _=>rfl) l
theorem Ga(l:List Int):e9 (eD l)=true:=nC (enc:=AV.int .u8) (fun _=>rfl) l
theorem yV(l m:List Int):eD (l++m)=eD l++eD m:=List.map_append ..
theorem fJ(l:List Int):ak (eD l)=eD l:=by
 induction l with
 |nil=>rfl
 |cons x l ih=>
  show AV.cells (.int .u8 x)++ak (eD l)=_;rw[ih];rfl
theorem kL:∀l:List Int,bz (eD l)=true
 |[]=>rfl
 |x::l=>by simp only[eD,List.map_cons,bz,AV.flat,cond_true];exact kL l
abbrev w8(n:Int):Int:=IntKind.u8.wrap n
def CA(n:Int)(i:Nat):List Int:=(List.range' i (8-i)).map fun i=>w8 ((n-254).fdiv (2^(56-8*i)))
def jq(n:Int):List Int:=if n<255 then [w8 n] else 255::CA n 0
def dn(l:List Int):List Int:=l.flatMap jq
theorem vF{n:Int}{i:Nat}(h:i<8):CA n i=w8 ((n-254).fdiv (2^(56-8*i)))::CA n (i+1):=by
 obtain⟨k,hk⟩:∃k,8-i=k+1:=⟨7-i,by omega⟩;simp only[CA,hk,List.range'_succ,List.map_cons];rw[show 8-(i+1)=k by omega]
theorem DF(n:Int):(CA n 0).length=8:=by simp[CA]
theorem H6(n:Int):(jq n).length≤9:=by
 unfold jq;split
 ·simp
 ·simp[DF]
theorem dh(l:List Int):(dn l).length≤9*l.length:=by
 induction l with
 |nil=>simp[dn]
 |cons n l ih=>
  have:=H6 n;simp only[dn,List.flatMap_cons,List.length_append,List.length_cons] at ih⊢;omega
theorem yB{l:List Int}{j:Nat}(hj:j<l.length):dn (l.take (j+1))=dn (l.take j)++jq l[j]:=by
 rw[dz hj,dn,List.flatMap_append];simp[dn]
theorem Bs(l m:List Int):dn (l++m)=dn l++dn m:=List.flatMap_append ..
abbrev BR(lo:Nat)(h:Heap)(v:AV)(M:List Int):Prop:=GR 1 lo h v (eD M)
theorem BR.put{lo:Nat}{h:Heap}{v:AV}{M:List Int}(hr:BR lo h v M)(hlo:lo≤h.next)(hm:M.length≤1000000000)(x:Int):
  ∃v' g',eV (.append 1 1) [v,.sl h.next 0 1 1 false] (h.new (.cells [.int .u8 x] true 0))=some (v',g')∧BR lo g' v' (M++[x])∧h.next≤g'.next∧∀c,c<lo→g'.get c=h.get c:=by
 have:=GR.app (bytes:=1) hr hlo (x:=.int .u8 x) rfl rfl (lG M) (by rw[cq];omega) (by rw[cq];omega);rw[show eD M++[AV.int .u8 x]=eD (M++[x]) from(yV M [x]).symm] at this;exact this
theorem Pg{kx:Nat}{l:List Int}{j:Nat}{n:Int}(hn:255≤n)(hn2:n≤9007199254740991){h0:Heap}{B:Nat}{Q:AX→Env→Heap→Prop}:
  ∀(m i:Nat) (h:Heap) (env:Env) (v:AV) (M:List Int),8-i=m→i≤8→BR h0.next h v M→Fr h0 h []→M.length+m≤1000000000→
   bQ env [(6,v),(8,.int .i64 n),(9,.int .i64 (56-8*((i:Nat):Int))),(12,.fz kx (ints l)),(13,.int .i64 ((l.length:Nat):Int)),(14,.int .i64 ((j:Nat):Int))]→
   (∀e' h' v',BR h0.next h' v' (M++CA n i)→Fr h0 h' []→bQ e' [(6,v'),(12,.fz kx (ints l)),(13,.int .i64 ((l.length:Nat):Int)),(14,.int .i64 ((j:Nat):Int))]→Q (.exit 3) e' h')→
   VC fs ms B false (.loop rP) env h Q:=by
 intro m;induction m with
 |zero=>
  intro i h env v M hm hi hr fr hM bg hQ;have h8:i=8:=by omega
  refine ay 4 _ bg ?_;refine aH (aa (z:=true) ?_);conv=>whnf
  refine k7 (by simp;omega) (fun hc=>?_)
  (try rw[hc])
  conv=>whnf
  refine hQ _ _ v (by simpa[CA,h8] using hr) fr ⟨rfl,rfl,rfl,rfl,trivial⟩
 |succ m ih=>
  intro i h env v M hm hi hr fr hM bg hQ;refine ay 4 _ bg ?_;refine aH (aa (z:=true) ?_);conv=>whnf
  refine ny (by simp;omega) (fun hc=>?_)
  (try rw[hc])
  conv=>whnf
  have hs:(56:Int)-8*((i:Nat):Int)=((56-8*i:Nat):Int):=by omega
  have hw:IntKind.i64.wrap (IntKind.i64.wrap (n-255)+1)=n-254:=by
   rw[IntWalk.i64_in (n-255) (by omega),IntWalk.i64_in _ (by omega)];omega
  rw[hw,hs];refine⟨_,Ed _ (by omega),?_⟩;conv=>whnf
  obtain⟨v',g',ha,hr',hU,hkp⟩:=hr.put fr.next (by omega) (w8 ((n-254).fdiv (2^(56-8*i))));refine⟨_,_,ha,?_⟩;conv=>whnf
  have fr':=fr.app hU hkp;refine ih (i+1) _ _ v' _ (by omega) (by omega) hr' fr' (by rw[List.length_append];simp;omega) ⟨rfl,rfl,?_,rfl,rfl,rfl,trivial⟩ ?_
  ·show some (AV.int .i64 (IntKind.i64.wrap (((56-8*i:Nat):Int)-8)))=_;rw[IntWalk.i64_in _ (by omega)]
   congr 2
   omega
  ·intro e' h' v'' kN iu JL;rw[List.append_assoc,List.singleton_append,←vF (by omega)] at kN;exact hQ e' h' v'' kN iu JL
theorem SF{kx:Nat}{b l:List Int}(hl:∀n∈l,cr n=false)(hsz:b.length+9*l.length≤1000000000){h0:Heap}{B:Nat}{Q:AX→Env→Heap→Prop}
  (hQ:∀e' h' v',BR h0.next h' v' (b++dn l)→Fr h0 h' []→Tr.get e' 6=some v'→Q (.exit 0) e' h'):
  ∀(m j:Nat) (h:Heap) (env:Env) (v:AV),l.length-j=m→j≤l.length→BR h0.next h v (b++dn (l.take j))→Fr h0 h []→
   bQ env [(6,v),(12,.fz kx (ints l)),(13,.int .i64 ((l.length:Nat):Int)),(14,.int .i64 ((j:Nat):Int))]→
   VC fs ms B false (.loop nk) env h Q:=by
 intro m;induction m with
 |zero=>
  intro j h env v hm hj hr fr bg;have he:j=l.length:=by omega
  subst he;refine ay 4 _ bg ?_;refine aH (aa (z:=true) ?_);conv=>whnf
  refine k7 (by simp) (fun hc=>?_)
  (try rw[hc])
  conv=>whnf
  exact hQ _ _ v (by simpa using hr) fr rfl
 |succ m ih=>
  intro j h env v hm hj hr fr bg;have hlt:j<l.length:=by omega
  have jn:=dh (l.take j);rw[List.length_take,Nat.min_eq_left (by omega)] at jn;have hb:(b++dn (l.take j)).length+9≤1000000000:=by rw[List.length_append];omega
  have hU:=yB hlt;have oy:=hl _ (List.getElem_mem hlt);have lV:=zm (k:=kx) hlt;generalize hx:l[j]=n at*;simp only[cr,Bool.or_eq_false_iff,decide_eq_false_iff_not] at oy;have hnext:∀e' h' v',BR h0.next h' v' (b++dn (l.take j)++jq n)→Fr h0 h' []→bQ e' [(6,v'),(12,.fz kx (ints l)),(13,.int .i64 ((l.length:Nat):Int)),(14,.int .i64 ((j:Nat):Int))]→
    VC fs ms B false (.ops [zP 49 (.bin .add) [.t 14,.c (.int .i64 1)],zM 14 49]) e' h' (fun x e1 h1=>match x with|.normal=>VC fs ms B false (.loop nk) e1 h1 Q|x=>Q x e1 h1):=by
   intro e' h' v' hr' fr' Xq;refine ay 4 _ Xq (aa (z:=true) ?_);conv=>whnf
   rw[List.append_assoc,←hU] at hr';exact ih (j+1) h' _ v' (by omega) (by omega) hr' fr' ⟨rfl,rfl,rfl,bC (by omega),trivial⟩
  refine ay 4 _ bg ?_;refine aH (an true ?_);conv=>whnf
  refine an true ?_;conv=>whnf
  refine ny (by simp;omega) (fun hc=>?_)
  (try rw[hc])
  conv=>whnf
  refine aJ (aa (z:=true) ?_);conv=>whnf
  refine⟨_,lV,?_⟩;conv=>whnf
  refine⟨.int .i64 n,rfl,?_⟩;conv=>whnf
  refine k7 (by simp;omega) (fun hc=>?_)
  (try rw[hc])
  conv=>whnf
  refine k7 (by simp;omega) (fun hc=>?_)
  (try rw[hc])
  conv=>whnf
  refine br (fun hc=>?_) (fun hc=>?_)<;>(try rw[hc])<;>(conv=>whnf)
  ·have qx:n<255:=of_decide_eq_true hc;obtain⟨v',g',ha,hr',CC,hkp⟩:=hr.put fr.next (by omega) (w8 n);refine⟨_,_,ha,?_⟩;conv=>whnf
   refine hnext _ _ v' (by rw[jq,if_pos qx];exact hr') (fr.app CC hkp) ⟨rfl,rfl,rfl,rfl,trivial⟩
  ·have qx:¬n<255:=of_decide_eq_false hc;obtain⟨v',g',ha,hr',CC,hkp⟩:=hr.put fr.next (by omega) 255;refine⟨_,_,ha,?_⟩;conv=>whnf
   refine Pg (kx:=kx) (l:=l) (j:=j) (n:=n) (h0:=h0) (by omega) (by omega) 8 0 _ _ v' _ rfl (by omega) hr' (fr.app CC hkp) (by rw[List.length_append];simp;omega) ⟨rfl,rfl,rfl,rfl,rfl,rfl,trivial⟩ ?_;intro e' h' v'' kN iu JL;conv=>whnf
   refine hnext e' h' v'' ?_ iu JL;rw[jq,if_neg qx];rw[List.append_assoc] at kN;exact kN
theorem Jl(b:List Int)(hsz:b.length≤1000000){h:Heap}{Q:AV→Heap→Prop}(hQ:∀v h',BR h.next h' v b→Fr h h' []→Q v h'):VD fs ms 47 [.fz (cR b.length) (eD b)] h Q:=by
 refine bN (af:=Tt) true rfl (Nat.le_of_ble_eq_true rfl) ?_;cases hb:b with
 |nil=>
  conv=>whnf
  exact hQ _ _ (by rw[hb];exact GR.nil) (Fr.refl _ _)
 |cons x r=>
  conv=>whnf
  have ha:eV (.append 1 1) [.sl h.next 0 0 0 false,.fz 0 (eD (x::r))] (h.new (.cells [] true 0))=some (.sl (h.next+1) 0 (r.length+1) (r.length+1) true,(h.new (.cells [] true 0)).new (.cells (eD (x::r)) true 1)):=by
   have:=yW (s:=1) (bytes:=1) (n:=r.length) (b:=h.next) (nx:=(h.new (.cells [] true 0)).next) (tr:=(h.new (.cells [] true 0)).m) (x:=.fz 0 (eD (x::r))) (cs:=eD (x::r)) (wr:=true) (es:=0) au (by omega) (by rw[hb] at hsz;simp at hsz;omega) (by
    have:=zY (k:=0) (h:=(h.new (.cells [] true 0))) (lG (x::r));rw[fJ,cq] at this;exact this) (kL _)
   exact this
  refine⟨_,_,ha,?_⟩;conv=>whnf
  refine hQ _ _ ?_ ((Fr.refl _ _).new.new);rw[hb];refine .inr ⟨by simp[eD],h.next+1,by omega,Nat.lt_succ_self _,by rw[cq];rfl,?_⟩;rw[fJ];exact au (h:=h.new (.cells [] true 0))
theorem SE{kx:Nat}(b l:List Int)(hl:∀n∈l,cr n=false)(hsz:b.length+9*l.length≤1000000){h:Heap}{Q:AV→Heap→Prop}(hQ:∀v h',BR h.next h' v (b++dn l)→Fr h h' []→Q (.dO [v,.int .i64 0]) h'):
  VD fs ms 26 [.fz (cR b.length) (eD b),.fz kx (ints l)] h Q:=by
 refine bY (af:=Te) rfl (Nat.le_of_ble_eq_true rfl) ?_;conv=>whnf
 refine an true ?_;conv=>whnf
 refine an true ?_;conv=>whnf
 refine Jl b (by omega) fun v h1 hr fr=>?_;conv=>whnf
 refine aJ (an true ?_);conv=>whnf
 rw[jW];refine aR ?_;refine SF (kx:=kx) (b:=b) (l:=l) (h0:=h) hl (by omega) ?_ l.length 0 _ _ v rfl (Nat.zero_le _) (by simpa[dn] using hr) fr ⟨rfl,rfl,rfl,rfl,trivial⟩;intro e' h' v' hr' fr' h6;conv=>whnf
 refine ay 3 [(6,v')] ⟨h6,trivial⟩ (aa (z:=true) ?_);conv=>whnf
 exact hQ v' h' hr' fr'
def gx(v:AV)(d:Nat):Prop:=∃o n c p,v=.sl d o n c p
theorem BR.own{lo:Nat}{h:Heap}{v:AV}{M:List Int}(hr:BR lo h v M){d:Nat}(ho:gx v d):lo≤d∧d<h.next:=by
 obtain⟨o,n,c,p,rfl⟩:=ho;rcases hr with⟨_,h⟩|⟨_,b,h1,h2,h3,_⟩
 ·simp at h
 ·simp only[AV.sl.injEq] at h3;obtain⟨rfl,_⟩:=h3;exact⟨h1,h2⟩
theorem BR.Rb{lo:Nat}{h:Heap}{v:AV}{M:List Int}(hr:BR lo h v M):∃bs:List Nat,jr (· ∈bs) h v (.fz (cR M.length) (eD M))∧∀b∈bs,gx v b:=by
 rcases hr with⟨hM,rfl⟩|⟨kD,b,h1,h2,rfl,h4⟩
 ·have:M=[]:=by cases M with|nil=>rfl|cons x r=>simp[eD] at hM
  subst this;exact⟨[],.az,by simp⟩
 ·cases M with
  |nil=>exact absurd rfl kD
  |cons m M=>exact⟨[b],jS (by simp) h4 rfl (lG _) rfl (Ga _),by simp[gx]⟩
theorem Br{b l:List Int}(hl:∀n∈l,cr n=false)(hsz:b.length+9*l.length≤1000000){lo c:Nat}{h:Heap}{v:AV}(hr:BR lo h v b)(hg:h.get c=some (.cells (ints l) true 0)){Q:AV→Heap→Prop}
  (hQ:∀v' h',BR h.next h' v' (b++dn l)→h.next≤h'.next→(∀d,d<h.next→d≠c→¬gx v d→h'.get d=h.get d)→Q (.dO [v',.int .i64 0]) h'):
  VD fs ms 26 [v,.sl c 0 l.length l.length false] h Q:=by
 obtain⟨bs,hf,Ac⟩:=hr.Rb;refine Di (args':=[.fz (cR b.length) (eD b),.fz 2 (ints l)]) (c::bs) (.cons (jr.mono (fun i hi=>List.mem_cons_of_mem _ hi) hf) (.cons (.row (s:=1) (wr:=true) (es:=0) (by simp) hg (th l).symm (tK l) (jW l).symm (Nat.le_refl _) (by omega) (fun _=>rfl) (fun _=>rfl) (jK l)) .nil)) ?_;refine SE b l hl hsz fun v' h' hr' fr'=>hQ v' h' ?_ ?_ ?_
 ·rw[bF] at hr';exact hr'
 ·have:=fr'.next;rw[bF] at this;exact this
 ·intro d XE hdc XF;rw[fr'.keep d (by rw[bF];exact XE) (by simp),dm,if_neg (fun hm=>(List.mem_cons.1 hm).elim hdc (fun h=>XF (Ac d h)))]
def xy(s:List UInt8):List Int:=s.map fun b=>(b.toNat:Int)
theorem pJ(s:List UInt8):(xy s).length=s.length:=List.length_map ..
theorem KF(s:List UInt8)(h:Heap):eY 1 h (.str s)=some ((eD (xy s)).length,ak (eD (xy s))):=by
 rw[fJ,cq,pJ];simp[eY,aP,eD,xy,Function.comp_def]
def Eh(s:List UInt8):List Int:=dn [(s.length:Int)]++xy s
theorem KI(s:List UInt8):(Eh s).length≤9+s.length:=by
 have:=dh [(s.length:Int)];simp only[List.length_cons,List.length_nil] at this;rw[Eh,List.length_append,pJ];omega
theorem mL{n:Nat}(h:n≤9007199254740991):cr (n:Int)=false:=by
 simp only[cr,Bool.or_eq_false_iff,decide_eq_false_iff_not];omega
theorem BR.Eh{lo:Nat}{h:Heap}{v:AV}{M:List Int}(hr:BR lo h v M)(hlo:lo≤h.next){s:List UInt8}(hm:M.length+s.length≤1000000000):
  ∃v' g',eV (.append 1 1) [v,.str s] h=some (v',g')∧BR lo g' v' (M++xy s)∧h.next≤g'.next∧∀c,c<lo→g'.get c=h.get c:=by
 have:=GR.QN (bytes:=1) hr hlo (KF s h) (by rw[fJ];exact kL _) (lG M) (by rw[cq,cq,pJ];omega) (by rw[cq,cq,pJ];omega);rw[←yV] at this;exact this
theorem BR.row{lo:Nat}{h:Heap}{v x:AV}{M X:List Int}(hr:BR lo h v M)(hlo:lo≤h.next)(hx:eY 1 h x=some (X.length,eD X))(hm:M.length+X.length≤1000000000):
  ∃v' g',eV (.append 1 1) [v,x] h=some (v',g')∧BR lo g' v' (M++X)∧h.next≤g'.next∧∀c,c<lo→g'.get c=h.get c:=by
 have:=GR.QN (bytes:=1) (X:=eD X) hr hlo (by rw[cq,fJ];exact hx) (by rw[fJ];exact kL _) (lG M) (by rw[cq,cq];omega) (by rw[cq,cq];omega);rw[←yV] at this;exact this
theorem BR.src{lo:Nat}{h:Heap}{v:AV}{M:List Int}(hr:BR lo h v M):eY 1 h v=some (M.length,eD M):=by
 rcases hr with⟨h1,rfl⟩|⟨hne,b,h1,h2,rfl,h4⟩
 ·have:M=[]:=by cases M with|nil=>rfl|cons x r=>simp[eD] at h1
  subst this;rfl
 ·rw[cq] at*;rw[fJ] at h4;exact wI h4 (by rw[cq,Nat.mul_one])
theorem BR.new{lo:Nat}{h:Heap}{v:AV}{M:List Int}{x:bP}(hr:BR lo h v M):BR lo (h.new x) v M:=by
 rcases hr with hr|⟨kD,b,h1,h2,h3,h4⟩
 ·exact .inl hr
 ·exact .inr ⟨kD,b,h1,Nat.lt_succ_of_lt h2,h3,by rw[aF h2];exact h4⟩
theorem Pz{b:List Int}{s:List UInt8}(hs:s.length≤16)(hsz:b.length≤900000){lo:Nat}{h:Heap}{v:AV}(hr:BR lo h v b){Q:AV→Heap→Prop}
  (hQ:∀v' h',BR h.next h' v' (b++Eh s)→h.next≤h'.next→(∀d,d<h.next→¬gx v d→h'.get d=h.get d)→Q (.dO [v',.int .i64 0]) h'):
  VD fs ms 46 [v,.str s] h Q:=by
 refine bN (af:=Ts) true rfl (Nat.le_of_ble_eq_true rfl) ?_;conv=>whnf
 refine k7 (by simp;omega) (fun hc=>?_)
 (try rw[hc])
 conv=>whnf
 refine Br (l:=[(s.length:Int)]) (c:=h.next) (by intro n hn;simp at hn;subst hn;exact mL (by omega)) (by simp;omega) hr.new au fun v' h' hr' hn' hk'=>?_;conv=>whnf
 have jn:=dh [(s.length:Int)];simp only[List.length_cons,List.length_nil] at jn;obtain⟨v2,g2,ha,kN,hn2,hk2⟩:=hr'.Eh (s:=s) hn' (by rw[List.length_append];omega);refine⟨_,_,ha,?_⟩;conv=>whnf
 have G6:h.next+1≤h'.next:=hn';exact hQ v2 g2 (by rw[List.append_assoc] at kN;exact kN.low (Nat.le_succ _)) (by omega) (fun d hd ho=>by rw[hk2 d (Nat.lt_succ_of_lt hd),hk' d (Nat.lt_succ_of_lt hd) (by omega) ho,aF (by omega)])
theorem KQ{k:Nat}(b:List Int)(hsz:b.length≤1000000){h:Heap}{Q:AV→Heap→Prop}(hQ:∀v h',BR h.next h' v b→Fr h h' []→Q v h'):VD fs ms 13 [.fz k (eD b)] h Q:=by
 refine bN (af:=QB) true rfl (Nat.le_of_ble_eq_true rfl) ?_;conv=>whnf
 obtain⟨v',g',ha,hr',fr'⟩:=GR.copy (s:=1) (bytes:=1) (lo:=h.next) (k:=k) (h:=h) (M:=eD b) (Nat.le_refl _) (lG b) (by rw[fJ];exact kL _) (by rw[cq];omega) (by rw[cq];omega);refine⟨_,_,ha,?_⟩;conv=>whnf
 exact hQ v' g' hr' fr'
theorem Kv{kx:Nat}{l:List Int}{j:Nat}{n:Int}(hn:255≤n)(hn2:n≤9007199254740991){h0:Heap}{B:Nat}{Q:AX→Env→Heap→Prop}:
  ∀(m i:Nat) (h:Heap) (env:Env) (v:AV) (M:List Int),8-i=m→i≤8→BR h0.next h v M→Fr h0 h []→M.length+m≤1000000000→
   bQ env [(6,v),(8,.int .i64 (n-254)),(9,.int .i64 (7-((i:Nat):Int))),(1,.fz kx (ints l)),(7,.int .i64 ((j:Nat):Int))]→
   (∀e' h' v',BR h0.next h' v' (M++CA n i)→Fr h0 h' []→bQ e' [(6,v'),(1,.fz kx (ints l)),(7,.int .i64 ((j:Nat):Int))]→Q (.exit 2) e' h')→
   VC fs ms B false (.loop iR) env h Q:=by
 intro m;induction m with
 |zero=>
  intro i h env v M hm hi hr fr hM bg hQ;have h8:i=8:=by omega
  refine ay 4 _ bg ?_;refine aH (aa (z:=true) ?_);conv=>whnf
  refine k7 (by simp;omega) (fun hc=>?_)
  (try rw[hc])
  conv=>whnf
  refine hQ _ _ v (by simpa[CA,h8] using hr) fr ⟨rfl,rfl,rfl,trivial⟩
 |succ m ih=>
  intro i h env v M hm hi hr fr hM bg hQ;refine ay 4 _ bg ?_;refine aH (aa (z:=true) ?_);conv=>whnf
  refine ny (by simp;omega) (fun hc=>?_)
  (try rw[hc])
  conv=>whnf
  have hs:IntKind.i64.wrap (8*(7-((i:Nat):Int)))=((56-8*i:Nat):Int):=by rw[IntWalk.i64_in _ (by omega)];omega
  rw[hs];refine⟨_,Ed _ (by omega),?_⟩;conv=>whnf
  obtain⟨v',g',ha,hr',hU,hkp⟩:=hr.put fr.next (by omega) (w8 ((n-254).fdiv (2^(56-8*i))));refine⟨_,_,ha,?_⟩;conv=>whnf
  have fr':=fr.app hU hkp;refine ih (i+1) _ _ v' _ (by omega) (by omega) hr' fr' (by rw[List.length_append];simp;omega) ⟨rfl,rfl,?_,rfl,rfl,trivial⟩ ?_
  ·show some (AV.int .i64 (IntKind.i64.wrap ((7-((i:Nat):Int))-1)))=_;rw[IntWalk.i64_in _ (by omega)]
   congr 2
   omega
  ·intro e' h' v'' kN iu JL;rw[List.append_assoc,List.singleton_append,←vF (by omega)] at kN;exact hQ e' h' v'' kN iu JL
theorem Pt{kx:Nat}{b l:List Int}(hl:∀n∈l,cr n=false)(hsz:b.length+9*l.length≤1000000000){h0:Heap}{B:Nat}{Q:AX→Env→Heap→Prop}
  (hQ:∀e' h' v',BR h0.next h' v' (b++dn l)→Fr h0 h' []→Tr.get e' 6=some v'→Q (.exit 0) e' h'):
  ∀(m j:Nat) (h:Heap) (env:Env) (v:AV),l.length-j=m→j≤l.length→BR h0.next h v (b++dn (l.take j))→Fr h0 h []→
   bQ env [(6,v),(1,.fz kx (ints l)),(7,.int .i64 ((j:Nat):Int))]→
   VC fs ms B false (.loop eM) env h Q:=by
 intro m;induction m with
 |zero=>
  intro j h env v hm hj hr fr bg;have he:j=l.length:=by omega
  refine ay 4 _ bg ?_;refine aH (aa (z:=true) ?_);conv=>whnf
  refine k7 (by simp[jW];omega) (fun hc=>?_)
  (try rw[hc])
  conv=>whnf
  subst he;exact hQ _ _ v (by simpa using hr) fr rfl
 |succ m ih=>
  intro j h env v hm hj hr fr bg;have hlt:j<l.length:=by omega
  have jn:=dh (l.take j);rw[List.length_take,Nat.min_eq_left (by omega)] at jn;have hb:(b++dn (l.take j)).length+9≤1000000000:=by rw[List.length_append];omega
  have hU:=yB hlt;have oy:=hl _ (List.getElem_mem hlt);have lV:=zm (k:=kx) hlt;generalize hx:l[j]=n at*;simp only[cr,Bool.or_eq_false_iff,decide_eq_false_iff_not] at oy;have hnext:∀e' h' v',BR h0.next h' v' (b++dn (l.take j)++jq n)→Fr h0 h' []→bQ e' [(6,v'),(1,.fz kx (ints l)),(7,.int .i64 ((j:Nat):Int))]→
    VC fs ms B false (.ops [zM 16 7,zP 17 (.bin .add) [.t 16,.c (.int .i64 1)],zM 7 17]) e' h' (fun x e1 h1=>match x with|.normal=>VC fs ms B false (.loop eM) e1 h1 Q|x=>Q x e1 h1):=by
   intro e' h' v' hr' fr' Xq;refine ay 4 _ Xq (aa (z:=true) ?_);conv=>whnf
   rw[List.append_assoc,←hU] at hr';exact ih (j+1) h' _ v' (by omega) (by omega) hr' fr' ⟨rfl,rfl,bC (by omega),trivial⟩
  refine ay 4 _ bg ?_;refine aH (an true ?_);conv=>whnf
  refine ny (by simp[jW];omega) (fun hc=>?_)
  (try rw[hc])
  conv=>whnf
  refine aJ (aa (z:=true) ?_);conv=>whnf
  refine⟨_,lV,?_⟩;conv=>whnf
  refine⟨.int .i64 n,rfl,?_⟩;conv=>whnf
  refine k7 (by simp;omega) (fun hc=>?_)
  (try rw[hc])
  conv=>whnf
  refine k7 (by simp;omega) (fun hc=>?_)
  (try rw[hc])
  conv=>whnf
  refine br (fun hc=>?_) (fun hc=>?_)<;>(try rw[hc])<;>(conv=>whnf)
  ·have qx:n<255:=of_decide_eq_true hc;obtain⟨v',g',ha,hr',CC,hkp⟩:=hr.put fr.next (by omega) (w8 n);refine⟨_,_,ha,?_⟩;conv=>whnf
   refine hnext _ _ v' (by rw[jq,if_pos qx];exact hr') (fr.app CC hkp) ⟨rfl,rfl,rfl,trivial⟩
  ·have qx:¬n<255:=of_decide_eq_false hc;obtain⟨v',g',ha,hr',CC,hkp⟩:=hr.put fr.next (by omega) 255;refine⟨_,_,ha,?_⟩;conv=>whnf
   have hw:IntKind.i64.wrap (n-254)=n-254:=IntWalk.i64_in _ (by omega);rw[hw];refine Kv (kx:=kx) (l:=l) (j:=j) (n:=n) (h0:=h0) (by omega) (by omega) 8 0 _ _ v' _ rfl (by omega) hr' (fr.app CC hkp) (by rw[List.length_append];simp;omega) ⟨rfl,rfl,rfl,rfl,rfl,trivial⟩ ?_;intro e' h' v'' kN iu JL;conv=>whnf
   refine hnext e' h' v'' ?_ iu JL;rw[jq,if_neg qx];rw[List.append_assoc] at kN;exact kN
theorem Pr{k kx:Nat}(b l:List Int)(hl:∀n∈l,cr n=false)(hsz:b.length+9*l.length≤1000000){h:Heap}{Q:AV→Heap→Prop}(hQ:∀v h',BR h.next h' v (b++dn l)→Fr h h' []→Q (.dO [v,.int .i64 0]) h'):
  VD fs ms 28 [.fz k (eD b),.fz kx (ints l)] h Q:=by
 refine bY (af:=Tg) rfl (Nat.le_of_ble_eq_true rfl) ?_;conv=>whnf
 refine an true ?_;conv=>whnf
 refine an true ?_;conv=>whnf
 refine KQ b (by omega) fun v h1 hr fr=>?_;conv=>whnf
 refine aJ (an true ?_);conv=>whnf
 refine aR ?_;refine Pt (kx:=kx) (b:=b) (l:=l) (h0:=h) hl (by omega) ?_ l.length 0 _ _ v rfl (Nat.zero_le _) (by simpa[dn] using hr) fr ⟨rfl,rfl,rfl,trivial⟩;intro e' h' v' hr' fr' h6;conv=>whnf
 refine ay 3 [(6,v')] ⟨h6,trivial⟩ (aa (z:=true) ?_);conv=>whnf
 exact hQ v' h' hr' fr'
theorem zT{b l:List Int}(hl:∀n∈l,cr n=false)(hsz:b.length+9*l.length≤1000000){lo c:Nat}{h:Heap}{v:AV}(hr:BR lo h v b)(hg:h.get c=some (.cells (ints l) true 0)){Q:AV→Heap→Prop}
  (hQ:∀v' h',BR h.next h' v' (b++dn l)→h.next≤h'.next→(∀d,d<h.next→d≠c→¬gx v d→h'.get d=h.get d)→Q (.dO [v',.int .i64 0]) h'):
  VD fs ms 28 [v,.sl c 0 l.length l.length false] h Q:=by
 obtain⟨bs,hf,Ac⟩:=hr.Rb;refine Di (args':=[.fz (cR b.length) (eD b),.fz 2 (ints l)]) (c::bs) (.cons (jr.mono (fun i hi=>List.mem_cons_of_mem _ hi) hf) (.cons (.row (s:=1) (wr:=true) (es:=0) (by simp) hg (th l).symm (tK l) (jW l).symm (Nat.le_refl _) (by omega) (fun _=>rfl) (fun _=>rfl) (jK l)) .nil)) ?_;refine Pr b l hl hsz fun v' h' hr' fr'=>hQ v' h' ?_ ?_ ?_
 ·rw[bF] at hr';exact hr'
 ·have:=fr'.next;rw[bF] at this;exact this
 ·intro d XE hdc XF;rw[fr'.keep d (by rw[bF];exact XE) (by simp),dm,if_neg (fun hm=>(List.mem_cons.1 hm).elim hdc (fun h=>XF (Ac d h)))]
theorem Ky{b:List Int}{s:List UInt8}(hs:s.length≤16)(hsz:b.length≤900000){lo:Nat}{h:Heap}{v:AV}(hr:BR lo h v b){Q:AV→Heap→Prop}
  (hQ:∀v' h',BR h.next h' v' (b++Eh s)→h.next≤h'.next→(∀d,d<h.next→¬gx v d→h'.get d=h.get d)→Q (.dO [v',.int .i64 0]) h'):
  VD fs ms 48 [v,.str s] h Q:=by
 refine bN (af:=Tu) true rfl (Nat.le_of_ble_eq_true rfl) ?_;conv=>whnf
 refine k7 (by simp;omega) (fun hc=>?_)
 (try rw[hc])
 conv=>whnf
 refine zT (l:=[(s.length:Int)]) (c:=h.next) (by intro n hn;simp at hn;subst hn;exact mL (by omega)) (by simp;omega) hr.new au fun v' h' hr' hn' hk'=>?_;conv=>whnf
 have jn:=dh [(s.length:Int)];simp only[List.length_cons,List.length_nil] at jn;obtain⟨v2,g2,ha,kN,hn2,hk2⟩:=hr'.Eh (s:=s) hn' (by rw[List.length_append];omega);refine⟨_,_,ha,?_⟩;conv=>whnf
 have G6:h.next+1≤h'.next:=hn';exact hQ v2 g2 (by rw[List.append_assoc] at kN;exact kN.low (Nat.le_succ _)) (by omega) (fun d hd ho=>by rw[hk2 d (Nat.lt_succ_of_lt hd),hk' d (Nat.lt_succ_of_lt hd) (by omega) ho,aF (by omega)])
theorem j9{α:Type}{x:Option α}{v:α}{f:α→Prop}(hx:x=some v)(hf:f v):@Option.rec α (fun _=>Prop) False f x:=by
 subst hx;exact hf
theorem sN{e:Env}{h:Heap}{a b o es:Nat}{wr:Bool}{vs:List AV}{w:AV}(ha:Tr.get e a=some (.ptr b o))(hg:h.get b=some (.cells vs wr es))(hv:vs[o]?=some w):er e h [.cell a 1 false]=some [w]:=by
 have:h.cP b o=some w:=by simp only[Heap.cP,Heap.row,hg,hv]
 simp only[er,tJ,ha,cond_false,this]
theorem Fy{B:Nat}{g:bx}{ps:List Nat}{a b:AC}{e:Env}{h:Heap}{f:Nat}{first aO:List AV}{Q:AX→Env→Heap→Prop}(L:Nat)(hL:h.next=L)(hao:dj e [g]=true)(vC:Env.ev e g=.func (.func f) first aO)
  (hw:VD fs ms f (first++(.yield L::aO)) (h.new (.loop 0 none e ps a b)) fun _ h2=>∃x st,h2.get L=some (.loop st (cU x) e ps a b)∧st≠1∧(∀v,x≠.panic v)∧Q x e (h2.set L (.loop 3 (cU x) e ps a b))):
  VC fs ms B false (.rangeFunc g ps a b) e h Q:=by
 subst hL;exact IG hao vC hw
def ie(x:bu):List Int:=[x.k,x.p,x.t,x.n,x.m]
def I6(o:nq):List Int:=dn [o.k,o.n]++Eh o.s
def jo(l:List nq):List Int:=l.flatMap I6
def iI(x:bu):List Int:=dn (ie x)++dn [(x.ops.length:Int)]++jo x.ops
theorem yq{l:List nq}{j:Nat}(hj:j<l.length):jo (l.take (j+1))=jo (l.take j)++I6 l[j]:=by
 rw[dz hj,jo,List.flatMap_append];simp[jo]
theorem Ke{o:nq}(h:o.s.length≤16):(I6 o).length≤43:=by
 have h1:=dh [o.k,o.n];have h2:=KI o.s;simp only[List.length_cons,List.length_nil] at h1;rw[I6,List.length_append];omega
theorem sF:∀{l:List nq},(∀o∈l,o.s.length≤16)→(jo l).length≤43*l.length
 |[],_=>by simp[jo]
 |o::l,h=>by
  have h1:=Ke (h o (by simp));have h2:=sF (l:=l) (fun o ho=>h o (by simp[ho]));simp only[jo,List.flatMap_cons,List.length_append,List.length_cons] at h2⊢;omega
structure Good(x:bu):Prop where
 hn:∀n∈ie x,cr n=false
 hl:x.ops.length≤32
 ho:∀o∈x.ops,cr o.k=false∧cr o.n=false∧o.s.length≤16
theorem zf{x:bu}(h:m9 x=0):Good x:=by
 unfold m9 at h;split at h
 ·simp at h
 ·rename_i h1;simp only[Bool.or_eq_true,not_or,Bool.not_eq_true] at h1;split at h
  ·simp at h
  ·rename_i h2;refine⟨?_,by omega,fun o ho=>?_⟩
   ·intro n hn;simp only[ie,List.mem_cons,List.not_mem_nil,or_false] at hn;rcases hn with rfl|rfl|rfl|rfl|rfl<;>simp[h1]
   ·have h3:=yw h o ho;unfold rL at h3;split at h3
    ·simp at h3
    ·rename_i h4;simp only[Bool.or_eq_true,not_or,Bool.not_eq_true] at h4;split at h3
     ·simp at h3
     ·exact⟨h4.1,h4.2,by omega⟩
theorem r9{x:bu}(h:Good x):(iI x).length≤1500:=by
 have h1:(dn (ie x)).length≤9*5:=dh (ie x);have h2:=dh [(x.ops.length:Int)];have h3:=sF (fun o ho=>(h.ho o ho).2.2);have h4:=h.hl;simp only[List.length_cons,List.length_nil] at h2;rw[iI,List.length_append,List.length_append];omega
theorem Bb{A j:Nat}(hj:j<5):pV (.Ba 1 5 false) [.agg [.ptr A 0,.ptr A 1,.ptr A 2,.ptr A 3,.ptr A 4],.int .i64 (j:Nat)]=some (.ptr A j):=by
 match j,hj with
 |0,_=>rfl
 |1,_=>rfl
 |2,_=>rfl
 |3,_=>rfl
 |4,_=>rfl
theorem F7(x:bu){j:Nat}(hj:j<(ie x).length):(dG x).cells[j]?=some (.int .i64 (ie x)[j]):=by
 match j,hj with
 |0,_=>rfl
 |1,_=>rfl
 |2,_=>rfl
 |3,_=>rfl
 |4,_=>rfl
theorem BR.cell{lo:Nat}{h:Heap}{v:AV}{M:List Int}(hr:BR lo h v M):v.cells.length=1∧bz v.cells=true:=by
 rcases hr with⟨_,rfl⟩|⟨_,b,_,_,rfl,_⟩
 ·exact⟨rfl,rfl⟩
 ·exact⟨rfl,rfl⟩
theorem BR.cells{lo:Nat}{h:Heap}{v:AV}{M:List Int}(hr:BR lo h v M):v.cells=[v]:=by
 rcases hr with⟨_,rfl⟩|⟨_,b,_,_,rfl,_⟩
 ·rfl
 ·rfl
def oO(A:Nat):Env:=ek 3 [(1,.ptr A 0),(2,.ptr (A+1) 0),(6,.func (.func 72) [] [.ptr (A+2) 0])]
structure Jb(h0:Heap)(x:bu)(j:Nat)(h:Heap):Prop where
 fr:Fr h0 h []
 hA:h.get h0.next=some (.cells (dG x).cells true 0)
 hB:∃v,h.get (h0.next+1)=some (.cells [v] true 0)∧BR (h0.next+4) h v (dn ((ie x).take j))
 hC:h.get (h0.next+2)=some (.cells [.ptr h0.next 0] true 0)
 hL:h.get (h0.next+3)=some (.loop 0 none (oO h0.next) [7] aZ bf)
 nx:h0.next+4≤h.next
theorem Q0{h0:Heap}{x:bu}(hg:Good x){B:Nat}{Q:AX→Env→Heap→Prop}(hQ:∀e' h',Jb h0 x 5 h'→Q (.exit 0) e' h'):
  ∀(m j:Nat) (h:Heap) (env:Env),5-j=m→j≤5→Jb h0 x j h→bQ env [(0,.yield (h0.next+3)),(20,.agg [.ptr h0.next 0,.ptr h0.next 1,.ptr h0.next 2,.ptr h0.next 3,.ptr h0.next 4]),(21,.int .i64 ((j:Nat):Int))]→
   VC fs ms B false (.loop jb) env h Q:=by
 intro m;induction m with
 |zero=>
  intro j h env hm hj hs bg;have he:j=5:=by omega
  refine ay 5 _ bg ?_;refine aH (aa (z:=true) ?_);conv=>whnf
  refine k7 (by simp;omega) (fun hc=>?_)
  (try rw[hc])
  conv=>whnf
  subst he;exact hQ _ _ hs
 |succ m ih=>
  intro j h env hm hj hs bg;have hlt:j<5:=by omega
  refine ay 5 _ bg ?_;refine aH (aa (z:=true) ?_);conv=>whnf
  refine ny (by simp;omega) (fun hc=>?_)
  (try rw[hc])
  conv=>whnf
  refine⟨_,Bb hlt,?_⟩;conv=>whnf
  obtain⟨fr,hA,⟨v,hB,hr⟩,hC,hL,nx⟩:=hs;have hlo:h0.next+4≤h.next:=nx;have N3:(h.set (h0.next+3) (.loop 1 none (oO h0.next) [7] aZ bf)).get h0.next=some (.cells (dG x).cells true 0):=(bw (by omega)).trans hA;have K1:(h.set (h0.next+3) (.loop 1 none (oO h0.next) [7] aZ bf)).get (h0.next+1)=some (.cells [v] true 0):=(bw (by omega)).trans hB;have h1C:(h.set (h0.next+3) (.loop 1 none (oO h0.next) [7] aZ bf)).get (h0.next+2)=some (.cells [.ptr h0.next 0] true 0):=(bw (by omega)).trans hC;have h1L:(h.set (h0.next+3) (.loop 1 none (oO h0.next) [7] aZ bf)).get (h0.next+3)=some (.loop 1 none (oO h0.next) [7] aZ bf):=aA;have GK:BR (h0.next+4) (h.set (h0.next+3) (.loop 1 none (oO h0.next) [7] aZ bf)) v (dn ((ie x).take j)):=hr.keep ((Fr.refl h [h0.next+3]).set (by simp)) (by simp);have Ab:Fr h0 (h.set (h0.next+3) (.loop 1 none (oO h0.next) [7] aZ bf)) []:=fr.gM (by omega);have Qg:h0.next+4≤(h.set (h0.next+3) (.loop 1 none (oO h0.next) [7] aZ bf)).next:=nx
  refine IJ hL rfl ?_;refine aa (z:=true) ?_;conv=>whnf
  refine⟨rfl,none,hL,?_⟩;generalize(h.set (h0.next+3) (.loop 1 none (oO h0.next) [7] aZ bf))=H at*;refine aa (z:=true) ?_;conv=>whnf
  refine⟨v,cM K1 rfl,?_⟩;conv=>whnf
  refine⟨_,cM N3 (F7 x (j:=j) hlt),?_⟩;conv=>whnf
  have tX:cr (ie x)[j]=false:=hg.hn _ (List.getElem_mem _);have jn:(dn ((ie x).take j)).length≤45:=by
   have:=dh ((ie x).take j);rw[List.length_take] at this;omega
  refine Br (l:=[(ie x)[j]]) (c:=H.next) (by intro n hn;simp at hn;subst hn;exact tX) (by simp;omega) GK.new au fun v' h' hr' hn' hk'=>?_;have hn2:H.next+1≤h'.next:=hn';replace hr':BR (h0.next+4) h' v' _:=hr'.low (Nat.le_succ_of_le Qg);have hk2:∀d,d<h0.next+4→h'.get d=H.get d:=fun d hd=>(hk' d (by show d<H.next+1;omega) (by omega) (fun ho=>by have:=(GK.own ho).1;omega)).trans (aF (by omega));conv=>whnf
  obtain⟨JT,FF⟩:=hr'.cell;refine⟨_,_,bX ((hk2 _ (by omega)).trans K1) JT (Nat.le_refl _) FF,?_⟩;conv=>whnf
  refine⟨by simp,⟨1,none,(bw (by omega)).trans ((hk2 _ (by omega)).trans h1L)⟩,?_⟩;conv=>whnf
  have hsp:Heap.splice [v] 0 v'.cells=[v']:=by rw[hr'.cells];rfl
  rw[hsp];have Le:Fr h0 h' []:=Ab.app (by omega) (fun c hc=>hk2 c (by omega));refine ih (j+1) _ _ (by omega) (by omega) ⟨(Le.gM (by omega)).gM (by omega),?_,⟨v',?_,?_⟩,?_,aA,?_⟩ ⟨rfl,rfl,bC (by omega),trivial⟩
  ·exact(bw (by omega)).trans ((bw (by omega)).trans ((hk2 _ (by omega)).trans N3))
  ·exact(bw (by omega)).trans aA
  ·rw[dz (l:=ie x) (j:=j) hlt,Bs];exact(hr'.keep ((Fr.refl h' [h0.next+1]).set (by simp)) (by simp)).keep ((Fr.refl _ [h0.next+3]).set (by simp)) (by simp)
  ·exact(bw (by omega)).trans ((bw (by omega)).trans ((hk2 _ (by omega)).trans h1C))
  ·show h0.next+4≤h'.next;omega
theorem NN{h0 h:Heap}{x:bu}(hg:Good x)(hs:Jb h0 x 0 h){Q:AV→Heap→Prop}(hQ:∀v h',Jb h0 x 5 h'→Q v h'):VD fs ms 72 [.yield (h0.next+3),.ptr (h0.next+2) 0] h Q:=by
 refine bY (af:=QI) rfl (Nat.le_of_ble_eq_true rfl) ?_;conv=>whnf
 refine an true ?_;conv=>whnf
 repeat(first|(refine⟨_,cM hs.hC rfl,?_⟩;conv=>whnf))
 refine aR ?_;refine Q0 hg (h0:=h0) (x:=x) ?_ 5 0 _ _ rfl (Nat.zero_le _) hs ⟨rfl,rfl,rfl,trivial⟩;intro e' h' hs';exact hQ _ h' hs'
theorem AJ{A:Nat}{h:Heap}{Q:AV→Heap→Prop}(hQ:Q (.func (.func 72) [] [.ptr h.next 0]) (h.new (.cells [.ptr A 0] true 0))):VD fs ms 45 [.ptr A 0] h Q:=by
 refine bN (af:=Tq) true rfl (Nat.le_of_ble_eq_true rfl) ?_;conv=>whnf
 exact hQ
structure Jc(h0:Heap)(x:bu)(L:List Int)(h:Heap):Prop where
 fr:Fr h0 h []
 hA:h.get h0.next=some (.cells (dG x).cells true 0)
 hB:∃v,h.get (h0.next+1)=some (.cells [v] true 0)∧BR (h0.next+4) h v L
 nx:h0.next+4≤h.next
theorem NO{h0:Heap}{x:bu}(hg:Good x){P:List Int}(hP:P.length≤100){B:Nat}{Q:AX→Env→Heap→Prop}(hQ:∀e' h',Jc h0 x (P++jo x.ops) h'→Tr.get e' 2=some (.ptr (h0.next+1) 0)→Q (.exit 2) e' h'):
  ∀(m j:Nat) (h:Heap) (env:Env),x.ops.length-j=m→j≤x.ops.length→Jc h0 x (P++jo (x.ops.take j)) h→bQ env [(2,.ptr (h0.next+1) 0),(27,.fz x.kk (b9 x.ops)),(28,.int .i64 ((x.ops.length:Nat):Int)),(29,.int .i64 ((j:Nat):Int))]→
   VC fs ms B false (.loop oG) env h Q:=by
 intro m;induction m with
 |zero=>
  intro j h env hm hj hs bg;have he:j=x.ops.length:=by omega
  refine ay 5 _ bg ?_;refine aH (aa (z:=true) ?_);conv=>whnf
  refine k7 (by simp;omega) (fun hc=>?_)
  (try rw[hc])
  conv=>whnf
  subst he;exact hQ _ _ (by simpa using hs) rfl
 |succ m ih=>
  intro j h env hm hj hs bg;have hlt:j<x.ops.length:=by omega
  have lV:=nJ (k:=x.kk) hlt;have ho:=hg.ho _ (List.getElem_mem hlt);have hU:=yq hlt;have jn:(jo (x.ops.take j)).length≤43*32:=by
   have:=sF (l:=x.ops.take j) (fun o ho=>(hg.ho o (List.mem_of_mem_take ho)).2.2);have h2:=hg.hl;rw[List.length_take] at this;omega
  generalize hO:x.ops[j]=o at*;have h62:=hg.hl;refine ay 5 _ bg ?_;refine aH (aa (z:=true) ?_);conv=>whnf
  refine ny (by simp;omega) (fun hc=>?_)
  (try rw[hc])
  conv=>whnf
  refine⟨_,lV,?_⟩;conv=>whnf
  refine⟨top o,rfl,?_⟩;conv=>whnf
  obtain⟨fr,hA,⟨v,hB,hr⟩,nx⟩:=hs;refine cm (bX au rfl (Nat.le_refl _) rfl) fun h1 e1=>?_;have N3:h1.get h0.next=some (.cells (dG x).cells true 0):=by rw[e1];exact(bw (by omega)).trans ((aF (by omega)).trans hA)
  have K1:h1.get (h0.next+1)=some (.cells [v] true 0):=by rw[e1];exact(bw (by omega)).trans ((aF (by omega)).trans hB)
  have h1c:h1.get h.next=some (.cells (top o).cells true 0):=by rw[e1,aA];rfl
  have GK:BR (h0.next+4) h1 v (P++jo (x.ops.take j)):=by
   rw[e1];exact hr.keep (T:=[]) (((Fr.refl h []).new).gM (Nat.le_refl _)) (by simp)
  have Ab:Fr h0 h1 []:=by rw[e1];exact fr.new.gM fr.next
  have Qg:h1.next=h.next+1:=by rw[e1];rfl
  have Lq:¬gx v h.next:=fun hw=>by have:=(hr.own hw).2;omega
  clear e1;conv=>whnf
  refine⟨v,cM K1 rfl,?_⟩;conv=>whnf
  refine⟨_,cM h1c rfl,?_⟩;conv=>whnf
  refine⟨_,cM h1c rfl,?_⟩;conv=>whnf
  have Ql:h0.next+4≤h1.next:=by omega
  refine Br (l:=[o.k,o.n]) (c:=h1.next) (by intro n hn;simp at hn;rcases hn with rfl|rfl<;>simp[ho]) (by rw[List.length_append];simp;omega) GK.new au fun v' h2 hr' hn' hk'=>?_;have hn2:h1.next+1≤h2.next:=hn';replace hr':BR (h1.next+1) h2 v' _:=hr';have hk2:∀d,d<h1.next→¬gx v d→h2.get d=h1.get d:=fun d hd hw=>(hk' d (by show d<h1.next+1;omega) (by omega) hw).trans (aF hd);have hvl:∀d,d<h0.next+4→¬gx v d:=fun d hd hw=>by have:=(hr.own hw).1;omega
  conv=>whnf
  obtain⟨JT,FF⟩:=hr'.cell;refine cm (bX ((hk2 _ (by omega) (hvl _ (by omega))).trans K1) JT (Nat.le_refl _) FF) fun h3 e3=>?_;have hsp:Heap.splice [v] 0 v'.cells=[v']:=by rw[hr'.cells];rfl
  rw[hsp] at e3;have h3A:h3.get h0.next=some (.cells (dG x).cells true 0):=by rw[e3];exact(bw (by omega)).trans ((hk2 _ (by omega) (hvl _ (by omega))).trans N3)
  have Zm:h3.get (h0.next+1)=some (.cells [v'] true 0):=by rw[e3];exact aA
  have Xm:h3.get h.next=some (.cells (top o).cells true 0):=by rw[e3];exact(bw (by omega)).trans ((hk2 _ (by omega) Lq).trans h1c)
  have Zn:BR (h1.next+1) h3 v' (P++jo (x.ops.take j)++dn [o.k,o.n]):=by rw[e3];exact hr'.keep ((Fr.refl h2 [h0.next+1]).set (by simp)) (by simp;omega)
  have N6:Fr h0 h3 []:=by rw[e3];exact(Ab.app (by omega) (fun c hc=>hk2 c (by omega) (hvl _ (by omega)))).gM (by omega)
  have h3n:h3.next=h2.next:=by rw[e3];rfl
  clear e3;conv=>whnf
  refine⟨v',cM Zm rfl,?_⟩;conv=>whnf
  refine⟨_,cM Xm rfl,?_⟩;conv=>whnf
  have B3:=dh [o.k,o.n];simp only[List.length_cons,List.length_nil] at B3;refine Pz ho.2.2 (by rw[List.length_append,List.length_append];omega) Zn fun v'' h4 A4 X2 uG=>?_;have EX:∀d,d<h0.next+4→¬gx v' d:=fun d hd hw=>by have:=(Zn.own hw).1;omega
  conv=>whnf
  obtain⟨hw1,Yn⟩:=A4.cell;refine cm (bX ((uG _ (by omega) (EX _ (by omega))).trans Zm) hw1 (Nat.le_refl _) Yn) fun h5 e5=>?_;have ON:Heap.splice [v'] 0 v''.cells=[v'']:=by rw[A4.cells];rfl
  rw[ON] at e5;have h5s:Jc h0 x (P++jo (x.ops.take (j+1))) h5:=by
   rw[hU,e5];refine⟨(N6.app (by omega) (fun c hc=>uG c (by omega) (EX _ (by omega)))).gM (by omega),?_,⟨v'',aA,?_⟩,?_⟩
   ·exact(bw (by omega)).trans ((uG _ (by omega) (EX _ (by omega))).trans h3A)
   ·rw[I6,←List.append_assoc,←List.append_assoc];refine(A4.low (by omega)).keep ((Fr.refl h4 [h0.next+1]).set (by simp)) (by simp)
   ·show h0.next+4≤h4.next;omega
  clear e5;conv=>whnf
  exact ih (j+1) h5 _ (by omega) (by omega) h5s ⟨rfl,rfl,rfl,bC (by omega),trivial⟩
theorem QZ{x:bu}(hg:Good x){h:Heap}{Q:AV→Heap→Prop}(hQ:∀v h',BR h.next h' v (iI x)→Fr h h' []→Q v h'):VD fs ms 25 [dG x] h Q:=by
 refine bY (af:=Td) rfl (Nat.le_of_ble_eq_true rfl) ?_;conv=>whnf
 refine an true ?_;conv=>whnf
 refine aJ (an true ?_);conv=>whnf
 refine AJ ?_;conv=>whnf
 refine aR ?_;refine ay 3 [(1,.ptr h.next 0),(2,.ptr (h.next+1) 0),(6,.func (.func 72) [] [.ptr (h.next+2) 0])] ⟨rfl,rfl,rfl,trivial⟩ ?_;refine Fy (h.next+3) rfl rfl rfl ?_;refine NN hg (h0:=h) (x:=x) ⟨?_,?_,⟨.az,?_,GR.nil⟩,?_,?_,?_⟩ ?_
 ·exact(((Fr.refl h []).new).new).new.new
 ·exact(aF (show h.next<h.next+3 by omega)).trans ((aF (show h.next<h.next+2 by omega)).trans ((aF (show h.next<h.next+1 by omega)).trans au))
 ·exact(aF (show h.next+1<h.next+3 by omega)).trans ((aF (show h.next+1<h.next+2 by omega)).trans (au (h:=h.new _)))
 ·exact(aF (show h.next+2<h.next+3 by omega)).trans (au (h:=(h.new _).new _))
 ·exact au (h:=((h.new _).new _).new _)
 ·exact Nat.le_refl _
 intro v2 h2 hs;refine⟨.normal,0,hs.hL,by decide,by simp,?_⟩;show VC fs ms h.next false _ _ _ _;obtain⟨fr,hA,⟨v,hB,hr⟩,hC,hL,nx⟩:=hs;have N3:(h2.set (h.next+3) (.loop 3 none (oO h.next) [7] aZ bf)).get h.next=some (.cells (dG x).cells true 0):=(bw (by omega)).trans hA;have K1:(h2.set (h.next+3) (.loop 3 none (oO h.next) [7] aZ bf)).get (h.next+1)=some (.cells [v] true 0):=(bw (by omega)).trans hB;have GK:BR (h.next+4) (h2.set (h.next+3) (.loop 3 none (oO h.next) [7] aZ bf)) v (dn (ie x)):=hr.keep ((Fr.refl h2 [h.next+3]).set (by simp)) (by simp);have Ab:Fr h (h2.set (h.next+3) (.loop 3 none (oO h.next) [7] aZ bf)) []:=fr.gM (by omega);have Qg:h.next+4≤(h2.set (h.next+3) (.loop 3 none (oO h.next) [7] aZ bf)).next:=nx
 show VC fs ms h.next false _ (ek 3 _) (h2.set (h.next+3) (.loop 3 none (oO h.next) [7] aZ bf)) _;generalize(h2.set (h.next+3) (.loop 3 none (oO h.next) [7] aZ bf))=H at*;have hvl:∀d,d<h.next+4→¬gx v d:=fun d hd hw=>by have:=(GK.own hw).1;omega
 refine ay 3 [(1,.ptr h.next 0),(2,.ptr (h.next+1) 0)] ⟨rfl,rfl,trivial⟩ ?_;refine an true ?_;conv=>whnf
 refine⟨v,cM K1 rfl,?_⟩;conv=>whnf
 refine⟨.fz x.kk (b9 x.ops),cM N3 rfl,?_⟩;conv=>whnf
 rw[bq];have B2:=hg.hl;have jn:(dn (ie x)).length≤9*5:=dh (ie x);refine Br (l:=[(x.ops.length:Int)]) (c:=H.next) (by intro n hn;simp at hn;subst hn;exact mL (by omega)) (by simp;omega) GK.new au fun v' h3 hr' hn' hk'=>?_;have hn2:H.next+1≤h3.next:=hn';replace hr':BR (H.next+1) h3 v' _:=hr';have hk2:∀d,d<H.next→¬gx v d→h3.get d=H.get d:=fun d hd hw=>(hk' d (by show d<H.next+1;omega) (by omega) hw).trans (aF hd);conv=>whnf
 obtain⟨JT,FF⟩:=hr'.cell;refine cm (bX ((hk2 _ (by omega) (hvl _ (by omega))).trans K1) JT (Nat.le_refl _) FF) fun h4 e4=>?_;have hsp:Heap.splice [v] 0 v'.cells=[v']:=by rw[hr'.cells];rfl
 rw[hsp] at e4;have Zo:Jc h x (dn (ie x)++dn [(x.ops.length:Int)]++jo (x.ops.take 0)) h4:=by
  rw[e4];refine⟨(Ab.app (by omega) (fun c hc=>hk2 c (by omega) (hvl _ (by omega)))).gM (by omega),(bw (by omega)).trans ((hk2 _ (by omega) (hvl _ (by omega))).trans N3),⟨v',aA,?_⟩,?_⟩
  ·rw[List.take_zero];simp only[jo,List.flatMap_nil,List.append_nil];exact(hr'.low (by omega)).keep ((Fr.refl h3 [h.next+1]).set (by simp)) (by simp)
  ·show h.next+4≤h3.next;omega
 clear e4;conv=>whnf
 refine aJ (an true ?_);conv=>whnf
 refine⟨.fz x.kk (b9 x.ops),cM Zo.hA rfl,?_⟩;conv=>whnf
 refine aR ?_;refine NO hg (P:=dn (ie x)++dn [(x.ops.length:Int)]) (by rw[List.length_append];have:=dh [(x.ops.length:Int)];simp only[List.length_cons,List.length_nil] at this;omega) ?_ x.ops.length 0 h4 _ rfl (Nat.zero_le _) Zo ⟨rfl,rfl,?_,rfl,trivial⟩
 ·intro e' h' hs' xo;show VC fs ms h.next false _ _ _ _;obtain⟨Cu,hA5,⟨w,Zr,B4⟩,nx5⟩:=hs';refine ay 3 [(2,.ptr (h.next+1) 0)] ⟨xo,trivial⟩ (aa (z:=true) ?_);conv=>whnf
  refine⟨w,cM Zr rfl,?_⟩;conv=>whnf
  obtain⟨hw1,Yn⟩:=B4.cell;refine cm (bX Zr hw1 (Nat.le_refl _) Yn) fun h6 e6=>?_;have ON:Heap.splice [w] 0 w.cells=[w]:=by rw[B4.cells];rfl
  rw[ON] at e6;conv=>whnf
  refine j9 (v:=[w]) (sN rfl (by rw[e6];exact aA) rfl) ?_;conv=>whnf
  refine hQ w h6 ?_ ?_
  ·rw[e6];exact(B4.keep ((Fr.refl h' [h.next+1]).set (by simp)) (by simp)).low (by omega)
  ·rw[e6];exact Cu.gM (by omega)
 ·show some (AV.int .i64 (((b9 x.ops).length:Nat):Int))=_;rw[bq]
structure QJ(h0:Heap)(x:bu)(L:List Int)(h:Heap)(v:AV):Prop where
 fr:Fr h0 h []
 hA:h.get h0.next=some (.cells (dG x).cells true 0)
 hr:BR (h0.next+1) h v L
 nx:h0.next+1≤h.next
theorem Kq{h0:Heap}{x:bu}(hg:Good x){P:List Int}(hP:P.length≤100){B:Nat}{Q:AX→Env→Heap→Prop}(hQ:∀e' h' v,QJ h0 x (P++jo x.ops) h' v→Tr.get e' 3=some v→Q (.exit 0) e' h'):
  ∀(m j:Nat) (h:Heap) (env:Env) (v:AV),x.ops.length-j=m→j≤x.ops.length→QJ h0 x (P++jo (x.ops.take j)) h v→bQ env [(1,.ptr h0.next 0),(3,v),(5,.int .i64 ((j:Nat):Int))]→
   VC fs ms B false (.loop ir) env h Q:=by
 intro m;induction m with
 |zero=>
  intro j h env v hm hj hs bg;have he:j=x.ops.length:=by omega
  refine ay 5 _ bg ?_;refine aH (aa (z:=true) ?_);conv=>whnf
  refine⟨.fz x.kk (b9 x.ops),cM hs.hA rfl,?_⟩;conv=>whnf
  refine k7 (by simp[bq];omega) (fun hc=>?_)
  (try rw[hc])
  conv=>whnf
  subst he;exact hQ _ _ v (by simpa using hs) rfl
 |succ m ih=>
  intro j h env v hm hj hs bg;have hlt:j<x.ops.length:=by omega
  have lV:=nJ (k:=x.kk) hlt;have ho:=hg.ho _ (List.getElem_mem hlt);have hU:=yq hlt;have jn:(jo (x.ops.take j)).length≤43*32:=by
   have:=sF (l:=x.ops.take j) (fun o ho=>(hg.ho o (List.mem_of_mem_take ho)).2.2);have h2:=hg.hl;rw[List.length_take] at this;omega
  generalize hO:x.ops[j]=o at*;have h62:=hg.hl;obtain⟨fr,hA,hr,nx⟩:=hs;have qI:rV .cP [.ptr h0.next 5] h=some (.fz x.kk (b9 x.ops)):=cM hA rfl;refine ay 5 _ bg ?_;refine aH (aa (z:=true) ?_);conv=>whnf
  refine⟨.fz x.kk (b9 x.ops),qI,?_⟩;conv=>whnf
  refine ny (by simp[bq];omega) (fun hc=>?_)
  (try rw[hc])
  conv=>whnf
  refine⟨.fz x.kk (b9 x.ops),qI,?_⟩;conv=>whnf
  refine⟨_,lV,?_⟩;conv=>whnf
  refine⟨.int .i64 o.k,rfl,?_⟩;conv=>whnf
  refine⟨.fz x.kk (b9 x.ops),qI,?_⟩;conv=>whnf
  refine⟨_,lV,?_⟩;conv=>whnf
  refine⟨.int .i64 o.n,rfl,?_⟩;conv=>whnf
  refine zT (l:=[o.k,o.n]) (c:=h.next) (by intro n hn;simp at hn;rcases hn with rfl|rfl<;>simp[ho]) (by rw[List.length_append];simp;omega) hr.new au fun v' h2 hr' hn' hk'=>?_;have hn2:h.next+1≤h2.next:=hn';replace hr':BR (h.next+1) h2 v' _:=hr';have hk2:∀d,d<h.next→¬gx v d→h2.get d=h.get d:=fun d hd hw=>(hk' d (by show d<h.next+1;omega) (by omega) hw).trans (aF hd);have hvl:∀d,d<h0.next+1→¬gx v d:=fun d hd hw=>by have:=(hr.own hw).1;omega
  have TZ:h2.get h0.next=some (.cells (dG x).cells true 0):=(hk2 _ (by omega) (hvl _ (by omega))).trans hA;have XV:rV .cP [.ptr h0.next 5] h2=some (.fz x.kk (b9 x.ops)):=cM TZ rfl;have N4:Fr h0 h2 []:=fr.app (by omega) (fun c hc=>hk2 c (by omega) (hvl _ (by omega)));conv=>whnf
  refine⟨.fz x.kk (b9 x.ops),XV,?_⟩;conv=>whnf
  refine⟨_,lV,?_⟩;conv=>whnf
  refine⟨.str o.s,rfl,?_⟩;conv=>whnf
  have B3:=dh [o.k,o.n];simp only[List.length_cons,List.length_nil] at B3;refine Ky ho.2.2 (by rw[List.length_append,List.length_append];omega) hr' fun v'' h4 A4 X2 uG=>?_;have EX:∀d,d<h0.next+1→¬gx v' d:=fun d hd hw=>by have:=(hr'.own hw).1;omega
  conv=>whnf
  refine ih (j+1) h4 _ v'' (by omega) (by omega) ⟨N4.app (by omega) (fun c hc=>uG c (by omega) (EX _ (by omega))),(uG _ (by omega) (EX _ (by omega))).trans TZ,?_,by omega⟩ ⟨rfl,rfl,bC (by omega),trivial⟩;rw[hU,I6,←List.append_assoc,←List.append_assoc];exact A4.low (by omega)
theorem Pp{x:bu}(hg:Good x){h:Heap}{Q:AV→Heap→Prop}(hQ:∀v h',BR h.next h' v (iI x)→Fr h h' []→Q v h'):VD fs ms 27 [dG x] h Q:=by
 refine bY (af:=Tf) rfl (Nat.le_of_ble_eq_true rfl) ?_;conv=>whnf
 refine an true ?_;conv=>whnf
 have hA:(h.new (.cells (dG x).cells true 0)).get h.next=some (.cells (dG x).cells true 0):=au;have B2:=hg.hl;refine an true ?_;conv=>whnf
 repeat(first|(refine⟨_,cM hA rfl,?_⟩;conv=>whnf))
 have oy:∀n∈[x.k,x.p,x.t,x.n,x.m,(x.ops.length:Int)],cr n=false:=by
  intro n hn;simp only[List.mem_cons,List.not_mem_nil,or_false] at hn;rcases hn with rfl|rfl|rfl|rfl|rfl|rfl
  ·exact hg.hn _ (by simp[ie])
  ·exact hg.hn _ (by simp[ie])
  ·exact hg.hn _ (by simp[ie])
  ·exact hg.hn _ (by simp[ie])
  ·exact hg.hn _ (by simp[ie])
  ·exact mL (by omega)
 rw[bq];refine zT (lo:=h.next+1) (l:=[x.k,x.p,x.t,x.n,x.m,(x.ops.length:Int)]) (b:=[]) (c:=h.next+1) oy (by simp) (.inl ⟨rfl,rfl⟩) (au (h:=h.new (.cells (dG x).cells true 0))) fun v h2 hr hn hk=>?_;have hn2:h.next+2≤h2.next:=hn;have TZ:h2.get h.next=some (.cells (dG x).cells true 0):=(hk _ (show h.next<h.next+2 by omega) (by omega) (by rintro⟨o,n,c,p,hw⟩;cases hw)).trans ((aF (show h.next<h.next+1 by omega)).trans hA);have N4:Fr h h2 []:=⟨by omega,fun c hc hb=>(hk c (show c<h.next+2 by omega) (by omega) (by rintro⟨o,n,c,p,hw⟩;cases hw)).trans ((aF (show c<h.next+1 by omega)).trans (aF hc))⟩;conv=>whnf
 refine aJ (an true ?_);conv=>whnf
 refine aR ?_;have Yi:[]++dn [x.k,x.p,x.t,x.n,x.m,(x.ops.length:Int)]=dn (ie x)++dn [(x.ops.length:Int)]:=by
  rw[List.nil_append,←Bs];rfl
 rw[Yi] at hr;refine Kq hg (h0:=h) (P:=dn (ie x)++dn [(x.ops.length:Int)]) (by rw[List.length_append];have h1:=dh [(x.ops.length:Int)];have h2:(dn (ie x)).length≤9*5:=dh (ie x);simp only[List.length_cons,List.length_nil] at h1;omega) ?_ x.ops.length 0 _ _ v rfl (Nat.zero_le _) ⟨N4,TZ,?_,by omega⟩ ⟨rfl,rfl,rfl,trivial⟩
 ·intro e' h' w hs h3;show VC fs ms h.next false _ _ _ _;refine ay 3 [(3,w)] ⟨h3,trivial⟩ (aa (z:=true) ?_);conv=>whnf
  exact hQ w h' (hs.hr.low (Nat.le_succ _)) hs.fr
 ·rw[List.take_zero];simp only[jo,List.flatMap_nil,List.append_nil];exact hr.low (show h.next+1≤h.next+2 by omega)
theorem uO{e:Env}{h:Heap}{a b:Nat}{v w:AV}(ha:Tr.get e a=some v)(hb:Tr.get e b=some w):er e h [.tmp a,.tmp b]=some [v,w]:=by
 simp only[er,tJ,ha,hb]
def mQ:List bu→Int
 |[]=>0
 |x::l=>if m9 x=0 then mQ l else m9 x
def jm(l:List bu):List Int:=l.flatMap fun x=>dn [((iI x).length:Int)]++iI x
def Ce(l:List bu):List Int:=if mQ l=0 then jm l else []
theorem Dx{l:List bu}{j:Nat}(hj:j<l.length):mQ (l.drop j)=if m9 l[j]=0 then mQ (l.drop (j+1)) else m9 l[j]:=by
 rw[List.drop_eq_getElem_cons hj];rfl
theorem xK{l:List bu}{j:Nat}(hj:j<l.length):jm (l.take (j+1))=jm (l.take j)++(dn [((iI l[j]).length:Int)]++iI l[j]):=by
 rw[dz hj,jm,List.flatMap_append];simp[jm]
theorem rU:∀{l:List bu},(∀x∈l,m9 x=0)→(jm l).length≤1600*l.length
 |[],_=>by simp[jm]
 |x::l,h=>by
  have h1:=r9 (zf (h x (by simp)));have h2:=rU (l:=l) (fun o ho=>h o (by simp[ho]));have h3:=dh [((iI x).length:Int)];simp only[List.length_cons,List.length_nil] at h3;simp only[jm,List.flatMap_cons,List.length_append,List.length_cons] at h2⊢;omega
theorem qJ{α:Type}{l:List α}{j:Nat}(hj:j<l.length){P:α→Prop}(h:∀x∈l.take j,P x)(hx:P l[j]):∀x∈l.take (j+1),P x:=by
 rw[dz hj];intro x hm;rcases List.mem_append.1 hm with hm|hm
 ·exact h x hm
 ·simp only[List.mem_singleton] at hm;subst hm;exact hx
theorem Jj{h0:Heap}{k:Nat}{l:List bu}(hl:l.length≤40)(nH:∀x∈l,x.ops.length<2^62){B:Nat}{Q:AX→Env→Heap→Prop}(hQ:∀e' h' v,mQ l=0→BR h0.next h' v (jm l)→Fr h0 h' []→Tr.get e' 2=some v→Q (.exit 0) e' h')
  (hE:∀e' h',mQ l≠0→Fr h0 h' []→Tr.get e' 2=some .az→Tr.get e' 3=some (.int .i64 (mQ l))→Q .ret e' h'):
  ∀(m j:Nat) (h:Heap) (env:Env) (v:AV),l.length-j=m→j≤l.length→mQ l=mQ (l.drop j)→(∀x∈l.take j,m9 x=0)→BR h0.next h v (jm (l.take j))→Fr h0 h []→
   bQ env [(2,v),(8,.fz k (dA l)),(9,.int .i64 ((l.length:Nat):Int)),(10,.int .i64 ((j:Nat):Int))]→
   VC fs ms B false (.loop oE) env h Q:=by
 intro m;induction m with
 |zero=>
  intro j h env v hm hj he hc hr fr bg;have hjl:j=l.length:=by omega
  refine ay 5 _ bg ?_;refine aH (aa (z:=true) ?_);conv=>whnf
  refine k7 (by simp;omega) (fun hc=>?_)
  (try rw[hc])
  conv=>whnf
  subst hjl;rw[List.drop_length] at he;exact hQ _ _ v he (by simpa using hr) fr rfl
 |succ m ih=>
  intro j h env v hm hj he hcs hr fr bg;have hlt:j<l.length:=by omega
  have lV:=nI (k:=k) hlt;have Qn:=nH _ (List.getElem_mem hlt);have hU:=xK hlt;have IZ:=rU hcs;rw[List.length_take] at IZ;have X0:=qJ (P:=fun x=>m9 x=0) hlt hcs;rw[Dx hlt] at he;generalize hX:l[j]=x at*;refine ay 5 _ bg ?_;refine aH (aa (z:=true) ?_);conv=>whnf
  refine ny (by simp;omega) (fun hc=>?_)
  (try rw[hc])
  conv=>whnf
  refine⟨_,lV,?_⟩;conv=>whnf
  refine⟨dG x,rfl,?_⟩;conv=>whnf
  refine cm (bX au rfl (Nat.le_refl _) rfl) fun h1 e1=>?_;have h1c:h1.get h.next=some (.cells (dG x).cells true 0):=by rw[e1,aA];rfl
  have GK:BR h0.next h1 v (jm (l.take j)):=by
   rw[e1];exact hr.keep (T:=[]) (((Fr.refl h []).new).gM (Nat.le_refl _)) (by simp)
  have Ab:Fr h0 h1 []:=by rw[e1];exact fr.new.gM fr.next
  have Qg:h1.next=h.next+1:=by rw[e1];rfl
  have Lq:∀d,gx v d→d<h.next:=fun d hw=>(hr.own hw).2;clear e1;conv=>whnf
  have RR:rV (.bt 6) [.ptr h.next 0] h1=some (dG x):=FG h1c (Nat.le_refl _);refine⟨dG x,RR,?_⟩;conv=>whnf
  refine cC (F8 x Qn) ?_;conv=>whnf
  refine br (fun hc=>?_) (fun hc=>?_)<;>(try rw[hc])<;>(conv=>whnf)
  ·have hne:m9 x≠0:=by simpa using hc
   rw[if_neg hne] at he;exact hE _ _ (by rw[he];exact hne) Ab rfl (by rw[he];rfl)
  ·have heq:m9 x=0:=by simpa using hc
   have hg:=zf heq;rw[if_pos heq] at he;refine⟨dG x,RR,?_⟩;conv=>whnf
   refine QZ hg fun w h2 kN iu=>?_;have hrl:=kN.len;rw[cq] at hrl;conv=>whnf
   rw[hrl];conv=>whnf
   have hel:=r9 hg;have K4:BR h0.next h2 v (jm (l.take j)):=GK.keep iu (by simp);refine Br (l:=[((iI x).length:Int)]) (c:=h2.next) (by intro n hn;simp at hn;subst hn;exact mL (by omega)) (by simp;omega) K4.new au fun v' h3 x8 Qk lS=>?_;have Oz:h2.next+1≤h3.next:=Qk;have X1:=iu.next;replace x8:BR (h2.next+1) h3 v' _:=x8;have hwk:BR h1.next h3 w (iI x):=by
    rcases kN with hw|⟨kD,b,g1,g2,g3,g4⟩
    ·exact .inl hw
    ·exact .inr ⟨kD,b,g1,by omega,g3,by rw[lS b (by show b<h2.next+1;omega) (by omega) (fun hw=>by have:=Lq b hw;omega),aF g2];exact g4⟩
   have uG:∀d,d<h0.next→h3.get d=h2.get d:=fun d hd=>by
    have:=Ab.next;rw[lS d (by show d<h2.next+1;omega) (by omega) (fun hw=>by have:=(K4.own hw).1;omega),aF (by omega)]
   have N6:Fr h0 h3 []:=(Ab.trans ⟨iu.next,fun c hc hn=>iu.keep c hc hn⟩).app (by omega) uG;conv=>whnf
   have Ye:=dh [((iI x).length:Int)];simp only[List.length_cons,List.length_nil] at Ye;obtain⟨v2,g2,ha,B4,X3,A1⟩:=BR.row x8 Oz hwk.src (by rw[List.length_append];omega);refine⟨_,_,ha,?_⟩;conv=>whnf
   have Xl:=Ab.next;refine ih (j+1) g2 _ v2 (by omega) (by omega) he (X0 heq) ?_ (N6.app (by omega) (fun c hc=>A1 c (by omega))) ⟨rfl,rfl,rfl,bC (by omega),trivial⟩;rw[hU,←List.append_assoc];exact B4.low (by omega)
theorem Dt(k:Nat)(l:List bu)(hl:l.length≤40)(nH:∀x∈l,x.ops.length<2^62){h:Heap}{Q:AV→Heap→Prop}(hQ:∀v h',BR h.next h' v (Ce l)→Fr h h' []→Q (.dO [v,.int .i64 (mQ l)]) h'):
  VD fs ms 9 [.fz k (dA l)] h Q:=by
 refine bY (af:=C9) rfl (Nat.le_of_ble_eq_true rfl) ?_;conv=>whnf
 refine an true ?_;conv=>whnf
 refine aJ (an true ?_);conv=>whnf
 rw[cD];refine aR ?_;refine Jj (h0:=h) (k:=k) hl nH ?_ ?_ l.length 0 h _ .az rfl (Nat.zero_le _) rfl (by simp) (.inl ⟨rfl,rfl⟩) (Fr.refl _ _) ⟨rfl,rfl,rfl,rfl,trivial⟩
 ·intro e' h' v he hr fr h2;show VC fs ms h.next false _ _ _ _;refine ay 3 [(2,v)] ⟨h2,trivial⟩ (aa (z:=true) ?_);conv=>whnf
  have:=hQ v h' (by rw[Ce,if_pos he];exact hr) fr;rw[he] at this;exact this
 ·intro e' h' he fr h2 h3;conv=>whnf
  refine j9 (v:=[.az,.int .i64 (mQ l)]) (uO h2 h3) ?_;exact hQ .az h' (by rw[Ce,if_neg he];exact .inl ⟨rfl,rfl⟩) fr
theorem Ia{h0:Heap}{k:Nat}{l:List bu}(hl:l.length≤40)(nH:∀x∈l,x.ops.length<2^62){B:Nat}{Q:AX→Env→Heap→Prop}(hQ:∀e' h' v,mQ l=0→BR h0.next h' v (jm l)→Fr h0 h' []→Tr.get e' 4=some v→Q (.exit 0) e' h')
  (hE:∀e' h',mQ l≠0→Fr h0 h' []→Tr.get e' 2=some .az→Tr.get e' 3=some (.int .i64 (mQ l))→Q .ret e' h'):
  ∀(m j:Nat) (h:Heap) (env:Env) (v:AV),l.length-j=m→j≤l.length→mQ l=mQ (l.drop j)→(∀x∈l.take j,m9 x=0)→BR h0.next h v (jm (l.take j))→Fr h0 h []→
   bQ env [(4,v),(0,.fz k (dA l)),(5,.int .i64 ((j:Nat):Int))]→
   VC fs ms B false (.loop ij) env h Q:=by
 intro m;induction m with
 |zero=>
  intro j h env v hm hj he hc hr fr bg;have hjl:j=l.length:=by omega
  refine ay 5 _ bg ?_;refine aH (aa (z:=true) ?_);conv=>whnf
  refine k7 (by simp[cD];omega) (fun hc=>?_)
  (try rw[hc])
  conv=>whnf
  subst hjl;rw[List.drop_length] at he;exact hQ _ _ v he (by simpa using hr) fr rfl
 |succ m ih=>
  intro j h env v hm hj he hcs hr fr bg;have hlt:j<l.length:=by omega
  have lV:=nI (k:=k) hlt;have Qn:=nH _ (List.getElem_mem hlt);have hU:=xK hlt;have IZ:=rU hcs;rw[List.length_take] at IZ;have X0:=qJ (P:=fun x=>m9 x=0) hlt hcs;rw[Dx hlt] at he;generalize hX:l[j]=x at*;have Lq:∀d,gx v d→d<h.next:=fun d hw=>(hr.own hw).2;refine ay 5 _ bg ?_;refine aH (aa (z:=true) ?_);conv=>whnf
  refine ny (by simp[cD];omega) (fun hc=>?_)
  (try rw[hc])
  conv=>whnf
  refine⟨_,lV,?_⟩;conv=>whnf
  refine⟨dG x,rfl,?_⟩;conv=>whnf
  refine cC (Bx x Qn) ?_;conv=>whnf
  refine br (fun hc=>?_) (fun hc=>?_)<;>(try rw[hc])<;>(conv=>whnf)
  ·have hne:m9 x≠0:=by simpa using hc
   rw[if_neg hne] at he;exact hE _ _ (by rw[he];exact hne) fr rfl (by rw[he];rfl)
  ·have heq:m9 x=0:=by simpa using hc
   have hg:=zf heq;rw[if_pos heq] at he;refine⟨_,lV,?_⟩;conv=>whnf
   refine⟨dG x,rfl,?_⟩;conv=>whnf
   refine Pp hg fun w h2 kN iu=>?_;have hrl:=kN.len;rw[cq] at hrl;conv=>whnf
   rw[hrl];conv=>whnf
   have hel:=r9 hg;have K4:BR h0.next h2 v (jm (l.take j)):=hr.keep iu (by simp);refine zT (l:=[((iI x).length:Int)]) (c:=h2.next) (by intro n hn;simp at hn;subst hn;exact mL (by omega)) (by simp;omega) K4.new au fun v' h3 x8 Qk lS=>?_;have Oz:h2.next+1≤h3.next:=Qk;have X1:=iu.next;replace x8:BR (h2.next+1) h3 v' _:=x8;have hwk:BR h.next h3 w (iI x):=by
    rcases kN with hw|⟨kD,b,g1,g2,g3,g4⟩
    ·exact .inl hw
    ·exact .inr ⟨kD,b,g1,by omega,g3,by rw[lS b (by show b<h2.next+1;omega) (by omega) (fun hw=>by have:=Lq b hw;omega),aF g2];exact g4⟩
   have uG:∀d,d<h0.next→h3.get d=h2.get d:=fun d hd=>by
    have:=fr.next;rw[lS d (by show d<h2.next+1;omega) (by omega) (fun hw=>by have:=(K4.own hw).1;omega),aF (by omega)]
   have N6:Fr h0 h3 []:=(fr.trans ⟨iu.next,fun c hc hn=>iu.keep c hc hn⟩).app (by omega) uG;conv=>whnf
   have Ye:=dh [((iI x).length:Int)];simp only[List.length_cons,List.length_nil] at Ye;obtain⟨v2,g2,ha,B4,X3,A1⟩:=BR.row x8 Oz hwk.src (by rw[List.length_append];omega);refine⟨_,_,ha,?_⟩;conv=>whnf
   have Xl:=fr.next;refine ih (j+1) g2 _ v2 (by omega) (by omega) he (X0 heq) ?_ (N6.app (by omega) (fun c hc=>A1 c (by omega))) ⟨rfl,rfl,bC (by omega),trivial⟩;rw[hU,←List.append_assoc];exact B4.low (by omega)
theorem H9(k:Nat)(l:List bu)(hl:l.length≤40)(nH:∀x∈l,x.ops.length<2^62){h:Heap}{Q:AV→Heap→Prop}(hQ:∀v h',BR h.next h' v (Ce l)→Fr h h' []→Q (.dO [v,.int .i64 (mQ l)]) h'):
  VD fs ms 10 [.fz k (dA l)] h Q:=by
 refine bY (af:=S1) rfl (Nat.le_of_ble_eq_true rfl) ?_;conv=>whnf
 refine an true ?_;conv=>whnf
 refine an true ?_;conv=>whnf
 refine aJ (an true ?_);conv=>whnf
 refine aR ?_;refine Ia (h0:=h) (k:=k) hl nH ?_ ?_ l.length 0 h _ .az rfl (Nat.zero_le _) rfl (by simp) (.inl ⟨rfl,rfl⟩) (Fr.refl _ _) ⟨rfl,rfl,rfl,trivial⟩
 ·intro e' h' v he hr fr h2;show VC fs ms h.next false _ _ _ _;refine ay 3 [(4,v)] ⟨h2,trivial⟩ (aa (z:=true) ?_);conv=>whnf
  have:=hQ v h' (by rw[Ce,if_pos he];exact hr) fr;rw[he] at this;exact this
 ·intro e' h' he fr h2 h3;conv=>whnf
  refine j9 (v:=[.az,.int .i64 (mQ l)]) (uO h2 h3) ?_;exact hQ .az h' (by rw[Ce,if_neg he];exact .inl ⟨rfl,rfl⟩) fr
def qU(L:List Int):List UInt8:=L.map fun n=>UInt8.ofNat n.toNat
theorem nY:∀L:List Int,cI (eD L)=some (qU L)
 |[]=>rfl
 |n::L=>by
  have:=nY L;simp only[eD,List.map_cons,cI,qU] at this⊢;rw[this];rfl
theorem BR.str{lo:Nat}{h:Heap}{v:AV}{M:List Int}(hr:BR lo h v M):rV .toStr [v] h=some (.str (qU M)):=by
 rcases hr with⟨h1,rfl⟩|⟨hne,b,h1,h2,rfl,h4⟩
 ·have:M=[]:=by cases M with|nil=>rfl|cons x r=>simp[eD] at h1
  subst this;rfl
 ·rw[fJ] at h4;have hl:h.bt b 0 (eD M).length=some (eD M):=by
   rw[ez h4 (by omega)];simp
  show rI .toStr [.sl b 0 (eD M).length (eD M).length true] h=_;simp only[rI,hl,nY,Option.map_some]
theorem EM{lo lo':Nat}{h:Heap}{v w:AV}{M:List Int}(hr:BR lo h v M)(hr':BR lo' h w M){Q:AV→Heap→Prop}(hQ:Q (.bool true) h):VD fs ms 11 [v,w] h Q:=by
 refine bN (af:=S2) true rfl (Nat.le_of_ble_eq_true rfl) ?_;conv=>whnf
 refine⟨_,hr.str,?_⟩;conv=>whnf
 refine⟨_,hr'.str,?_⟩;conv=>whnf
 have:(qU M==qU M)=true:=by simp
 rw[this];exact hQ
end Ir
end Go.Proofs.YtmnolnoeibhjgaaGreat
