/-
  Rank: Ids of a few.
-/
import Derived.Test.YtenafeojcgmnhaaVRdI
set_option maxRecDepth 100000
set_option linter.unusedSimpArgs false
set_option linter.unusedVariables false
namespace Go.Proofs.Ytenafeojcgmnhaa
open Go Ads
namespace Ads
theorem KG{h:Heap}{b s n cap:Nat}{op wr:Bool}{es:Nat}{cs rest:List AV}(hg:h.get b=some (.cells (cs++rest) wr es))(hl:cs.length=n*s):eC s h (.sl b 0 n cap op)=some (n,cs):=by
 have b1:Nat.ble (0+n*s) (cs++rest).length=true:=Nat.ble_eq_true_of_le (by rw[List.length_append];omega);show(h.aO b 0 (n*s)).map _=_;have:h.aO b 0 (n*s)=some cs:=by
  simp only[Heap.aO,Heap.row,hg,b1,cond_true,List.drop_zero];rw[←hl,List.take_left'];rfl
 rw[this];rfl
theorem Es{h:Heap}{b s bytes:Nat}{src:AV}{cs:List AV}(hsrc:eC s h src=some (0,cs))(hf:bE cs=true):eV (.append s bytes) [.sl b 0 0 0 false,src] h=some (.sl b 0 0 0 false,h):=by
 simp only[eV,l2,hsrc];show cond (bE cs) _ _=_;rw[hf,cond_true];rfl
theorem xm{h:Heap}{b s bytes n es:Nat}{wr:Bool}{vs:List AV}{src:AV}{cs:List AV}(hg:h.get b=some (.cells vs wr es))(hsrc:eC s h src=some (n+1,cs))(hf:bE cs=true)(hb:bytes≤1048576)(hn:n≤1048576):
  eV (.append s bytes) [.sl b 0 0 0 false,src] h=some (.sl h.next 0 (n+1) (n+1) true,h.new (.cells cs true s)):=by
 have hm:(n+1)*bytes≤1048577*1048576:=Nat.mul_le_mul (by omega) hb;have b2:Nat.ble ((0+(n+1))*bytes) 140737488355328=true:=Nat.ble_eq_true_of_le (by rw[Nat.zero_add];omega);have b3:Nat.ble (0+(n+1)) 9223372036854775807=true:=Nat.ble_eq_true_of_le (by omega);have y7:h.aO b 0 (0*s)=some []:=by
  have b1:Nat.ble (0+0*s) vs.length=true:=Nat.ble_eq_true_of_le (by omega);simp only[Heap.aO,Heap.row,hg];rw[b1,cond_true,Nat.zero_mul];rfl
 have b0:Nat.ble (0+(n+1)) 0=false:=by
  cases hb:Nat.ble (0+(n+1)) 0 with
  |false=>rfl
  |true=>have:=Nat.le_of_ble_eq_true hb;omega
 simp only[eV,l2,hsrc];show cond (bE cs) _ _=_;rw[hf,cond_true];show cond (Nat.beq (n+1) 0&&Nat.ble 0 0) _ _=_;rw[show Nat.beq (n+1) 0=false from rfl,Bool.false_and,cond_false,b0,cond_false,b2,b3,Bool.and_self,cond_true,hg,y7];show some (AV.sl h.next 0 (0+(n+1)) (0+(n+1)) true,h.new (.cells ([]++cs) true s))=_;rw[Nat.zero_add,List.nil_append]
end Ads
namespace Ir
theorem rP:∀L:List Id,bE (oc L)=true
 |[]=>rfl
 |x::L=>by
  show bE (.int .i64 (x.1:Nat)::.int .i64 x.2::oc L)=true;simp only[bE,rP L];rfl
theorem Kr{h:Heap}{b es cap:Nat}{op:Bool}{L:List Id}{rest:List AV}{m:Int}(hh:cO h b es L rest)(h12:L.length≤12){Q:AV→Heap→Prop}
  (hQ:∀h' L',cO h' b es L' rest→RS 0 L.length L L'→oa L' 0 L.length→Fr h h' [b]→Q (.cg []) h'):
  VD fs ms 66 [.sl b 0 L.length cap op,.int .i64 ((0:Nat):Int),.int .i64 ((L.length:Nat):Int),.int .i64 m,fE] h Q:=by
 refine aE (af:=Lv) true rfl (Nat.le_of_ble_eq_true rfl) ?_;conv=>whnf
 refine bB (z:=true) ?_;conv=>whnf
 have hd:decide (IntKind.i64.wrap (((L.length:Nat):Int)-((0:Nat):Int))≤12)=true:=by
  rw[show((L.length:Nat):Int)-((0:Nat):Int)=((L.length:Nat):Int) by omega,iw (by omega)];exact decide_eq_true (by omega)
 refine IK (hd) (fun hc=>?_)
 (try rw[hc])
 conv=>whnf
 refine Lj hh (by omega) (Nat.zero_le _) (Nat.le_refl _) fun h' L' k1 k2 k3 k4=>?_;conv=>whnf
 exact hQ h' L' k1 k2 k3 k4
theorem Is{h:Heap}{b es cap:Nat}{op:Bool}{L:List Id}{rest:List AV}(hh:cO h b es L rest)(h12:L.length≤12){Q:AV→Heap→Prop}
  (hQ:∀h' L',cO h' b es L' rest→RS 0 L.length L L'→oa L' 0 L.length→Fr h h' [b]→Q (.cg []) h'):
  VD fs ms 47 [.sl b 0 L.length cap op,fE] h Q:=by
 refine aE (af:=NW) true rfl (Nat.le_of_ble_eq_true rfl) ?_;conv=>whnf
 obtain⟨m,hm⟩:=FG (n:=L.length) (by omega);have hu:IntKind.u64.wrap ((L.length:Nat):Int)=((L.length:Nat):Int):=by
  have ko:∀z:Int,IntKind.u64.wrap z=z%18446744073709551616:=fun z=>by simp[IntKind.wrap,IntKind.signed,IntKind.bits]
  rw[ko];omega
 rw[hu];refine aZ hm ?_;conv=>whnf
 refine Kr hh h12 fun h' L' k1 k2 k3 k4=>?_;conv=>whnf
 exact hQ h' L' k1 k2 k3 k4
theorem Du{h:Heap}{k p:Nat}{S:List Nat}{L:List Id}{P:Nat→Nat}(hr:Row h k p S L P)(xK:L.length≤64):∃rv,rV .bW [.ptr p 0] h=some rv∧∀{Q:AV→Heap→Prop},
  (L=[]→Q .aN h)→(∀h' c es op,cO h' c es L []→h.next≤c→Fr h h' []→Q (.sl c 0 L.length L.length op) h')→VD fs ms 46 [rv] h Q:=by
 rcases hr with⟨hL,_,hg⟩|⟨r,cap,rest,_,_,_,hh⟩
 ·refine⟨.aN,bQ hg rfl,fun{Q} q0 q1=>?_⟩;refine aE (af:=OO) true rfl (Nat.le_of_ble_eq_true rfl) ?_;conv=>whnf
  exact q0 hL
 ·refine⟨_,hh.row,fun{Q} q0 q1=>?_⟩;have y8:=iX L;refine aE (af:=OO) true rfl (Nat.le_of_ble_eq_true rfl) ?_;conv=>whnf
  have hsrc:∀g:Heap,g=h.new (.cells [] true 0)→eC 2 g (.sl r 0 L.length cap true)=some (L.length,oc L):=by
   rintro g rfl;exact KG (rest:=rest) (by rw[aH hh.lr];exact hh.hr) y8
  by_cases hl:L.length=0
  ·have hL:L=[]:=List.eq_nil_of_length_eq_zero hl;subst hL;refine bA (Es (hsrc _ rfl) (rP _)) fun h1 e1=>?_;conv=>whnf
   refine q1 h1 h.next 0 false ⟨?_,?_⟩ (Nat.le_refl _) ?_
   ·rw[e1,aB];rfl
   ·rw[e1];exact Nat.lt_succ_self _
   ·rw[e1];exact(Fr.refl h []).new
  ·obtain⟨n,hn⟩:∃n,L.length=n+1:=⟨L.length-1,by omega⟩;rw[hn] at hsrc⊢;refine bA (xm aB (hsrc _ rfl) (rP _) (by omega) (by omega)) fun h1 e1=>?_;conv=>whnf
   rw[hn] at q1;refine q1 h1 (h.next+1) 2 true ⟨?_,?_⟩ (by omega) ?_
   ·rw[e1,List.append_nil];exact aB
   ·rw[e1];exact Nat.lt_succ_self _
   ·rw[e1];exact((Fr.refl h []).new).new
def dr(lo:Nat)(h:Heap)(v:AV)(l:List Int):Prop:=
 (l=[]∧v=.aN)∨∃b,lo≤b∧b<h.next∧v=.sl b 0 l.length l.length true∧h.get b=some (.cells (ints l) true 1)
def qo(v:AV)(c:Nat):Prop:=∀o n k op,v≠.sl c o n k op
theorem dr.keep{lo:Nat}{h h':Heap}{v:AV}{l:List Int}(hr:dr lo h v l)(fr:Fr h h' []):dr lo h' v l:=by
 rcases hr with hr|⟨b,h1,h2,h3,h4⟩
 ·exact .inl hr
 ·exact .inr ⟨b,h1,Nat.lt_of_lt_of_le h2 fr.next,h3,by rw[fr.keep b h2 (by simp)];exact h4⟩
theorem dr.app{lo:Nat}{h:Heap}{v:AV}{l:List Int}(hr:dr lo h v l)(hlo:lo≤h.next)(hl:l.length≤1048576)(x:Int):∃v' g',eV (.append 1 8) [v,.sl h.next 0 1 1 false] (h.new (.cells [.int .i64 x] true 0))=some (v',g')∧
  dr lo g' v' (l++[x])∧h.next≤g'.next∧(∀c,c<h.next→qo v c→g'.get c=h.get c)∧∀c,c<h.next→qo v' c:=by
 have hsrc:eC 1 (h.new (.cells [.int .i64 x] true 0)) (.sl h.next 0 1 1 false)=some (1,[.int .i64 x]):=nU aB rfl;have off:∀(n k:Nat) c,c<h.next→qo (.sl (h.next+1) 0 n k true) c:=by
  intro n k c hc o n' k' op e;cases e
  omega
 rcases hr with⟨h1,h2⟩|⟨b,h1,h2,h3,h4⟩
 ·subst h1 h2;refine⟨_,_,sX (by omega) hsrc rfl,.inr ⟨h.next+1,by omega,Nat.lt_succ_self _,rfl,?_⟩,by show h.next≤h.next+1+1;omega,fun c hc _=>?_,off _ _⟩
  ·exact aB (h:=h.new (.cells [.int .i64 x] true 0))
  ·exact(aH (h:=h.new (.cells [.int .i64 x] true 0)) (show c<h.next+1 by omega)).trans (aH hc)
 ·subst h3;have hg:(h.new (.cells [.int .i64 x] true 0)).get b=some (.cells (ints l) true 1):=by rw[aH h2];exact h4
  refine⟨_,_,rC hg (by rw[ck,Nat.mul_one]) hsrc rfl (by omega) hl,.inr ⟨h.next+1,by omega,Nat.lt_succ_self _,by rw[List.length_append];rfl,?_⟩,by show h.next≤h.next+1+1;omega,fun c hc ho=>?_,off _ _⟩
  ·have:=aB (h:=(h.new (.cells [.int .i64 x] true 0)).del b) (x:=.cells (ints l++[.int .i64 x]) true 1);rw[show((h.new (.cells [.int .i64 x] true 0)).del b).next=h.next+1 from rfl] at this;rw[this,ints,ints,List.map_append];rfl
  ·have hne:c≠b:=by rintro rfl;exact ho _ _ _ _ rfl
   exact(aH (h:=(h.new (.cells [.int .i64 x] true 0)).del b) (show c<h.next+1 by omega)).trans ((fX hne).trans (aH hc))
def oe(L:List Id):List Int:=L.map fun y=>(y.1:Int)
theorem dw(L:List Id):(oe L).length=L.length:=by simp[oe]
theorem A7{L:List Id}{i:Nat}(h:i<L.length):oe (L.take (i+1))=oe (L.take i)++[((gI L i).1:Int)]:=by
 rw[List.take_succ_eq_append_getElem h,dB h,oe,List.map_append];rfl
def MY(v:AV)(c N i:Nat)(op:Bool):List (Nat×AV):=[(2,v),(18,.sl c 0 N N op),(19,.int .i64 ((N:Nat):Int)),(20,.int .i64 ((i:Nat):Int))]
theorem A8{c es N:Nat}{op:Bool}{h0:Heap}{B:Nat}{Q:AX→Env→Heap→Prop}{L:List Id}(hN:N≤64)(hL:L.length=N)(hc0:h0.next≤c):
  ∀(k i:Nat) (h:Heap) (v:AV) (env:Env),N-i=k→cO h c es L []→i≤N→dr h0.next h v (oe (L.take i))→qo v c→Fr h0 h []→
  aW env (MY v c N i op)→
  (∀(h':Heap) (v':AV) (e':Env),Tr.get e' 2=some v'→dr h0.next h' v' (oe L)→Fr h0 h' []→Q (.exit 0) e' h')→
  VC fs ms B false (.loop lZ) env h Q:=by
 intro k;induction k using Nat.strongRecOn with
 |ind k ih=>
 intro i h v env hk hh hi hr ho kC bM hQ;refine an 5 (MY v c N i op) bM ?_;refine bB (z:=true) ?_;unfold MY;conv=>whnf
 refine br (fun hc=>?_) (fun hc=>?_)<;>(try rw[hc])<;>(conv=>whnf)
 ·have hlt:i<L.length:=by have:=of_decide_eq_true hc;omega
  refine⟨_,bh (by omega),?_⟩;conv=>whnf
  refine⟨_,hh.one hlt,?_⟩;conv=>whnf
  refine bA (fQ aB rfl (Nat.le_refl _) rfl) fun h1 e1=>?_;conv=>whnf
  have sP:Fr h h1 []:=by rw[e1];exact((Fr.refl h []).new (x:=_)).Im (Nat.le_refl _)
  have gb:h1.get h.next=some (.cells (ob (gI L i)).cells true 0):=by rw[e1,aV];rfl
  clear e1;refine⟨_,bQ gb rfl,?_⟩;conv=>whnf
  have uB:=hr.keep sP;have hlo:h0.next≤h1.next:=Nat.le_trans kC.next sP.next;obtain⟨v',g',a1,a2,a3,a4,a5⟩:=uB.app hlo (by rw[dw,List.length_take];omega) ((gI L i).1:Int);refine bA a1 fun h2 e2=>?_;subst e2;conv=>whnf
  have kK:c<h.next:=hh.lb;have PG:c<h1.next:=Nat.lt_of_lt_of_le kK sP.next;refine ih (N-(i+1)) (by omega) (i+1) h2 v' _ rfl ⟨?_,by omega⟩ (by omega) (by rw[A7 hlt];exact a2) (a5 c PG) ⟨by omega,fun b hb _=>?_⟩ ⟨rfl,rfl,rfl,aS (by omega),trivial⟩ hQ
  ·rw[a4 c PG ho,sP.keep c kK (by simp)];exact hh.hb
  ·have Qn:qo v b:=by
    rcases hr with⟨_,rfl⟩|⟨b',wz,_,rfl,_⟩
    ·intro o n k op e;cases e
    ·intro o n k op e;cases e;omega
   rw[a4 b (Nat.lt_of_lt_of_le hb hlo) Qn,sP.keep b (Nat.lt_of_lt_of_le hb kC.next) (by simp)];exact kC.keep b hb (by simp)
 ·have hge:i=N:=by have:=of_decide_eq_false hc;omega
  subst hge;refine hQ h v _ rfl ?_ kC;rw[←hL,List.take_length] at hr;exact hr
theorem BE:PC fs ms 47 [.aN,fE] (.cg []):=by
 refine j9 rfl rfl ?_;refine aE (af:=NW) false rfl (Nat.le_of_ble_eq_true rfl) ?_;generalize hQ:(fun(u:AV) (_:Heap)=>u=.cg [])=Q;conv=>whnf
 obtain⟨m,hm⟩:=FG (n:=0) (by omega);refine aZ hm ?_;conv=>whnf
 refine aE (af:=Lv) false rfl (Nat.le_of_ble_eq_true rfl) ?_;conv=>whnf
 refine bB (z:=false) ?_;conv=>whnf
 refine aE (af:=OP) false rfl (Nat.le_of_ble_eq_true rfl) ?_;conv=>whnf
 refine bB (z:=false) ?_;conv=>whnf
 subst hQ;rfl
structure Ord(L M:List Id):Prop where
 len:M.length=L.length
 mem:∀y,y∈M↔y∈L
 dst:FB M
 Rr:oa M 0 M.length
theorem JO{h:Heap}{k p:Nat}{S:List Nat}{L:List Id}{P:Nat→Nat}(hr:mG h k p S L P)(h12:L.length≤12){Q:AV→Heap→Prop}
  (hQ:∀h' v M,dr h.next h' v (oe M)→Ord L M→Fr h h' []→Q v h'):VD fs ms 19 [.ptr k 0] h Q:=by
 refine bC (af:=NU) rfl (Nat.le_of_ble_eq_true rfl) ?_;conv=>whnf
 refine aa true ?_;conv=>whnf
 refine aa true ?_;conv=>whnf
 refine vD hr ?_;conv=>whnf
 obtain⟨rv,c1,c2⟩:=Du hr.row hr.pl.mj;refine aa true ?_;conv=>whnf
 refine⟨_,bQ hr.hk rfl,?_⟩;conv=>whnf
 refine⟨_,c1,?_⟩;conv=>whnf
 refine c2 (fun hL=>?_) fun h1 c es op hs hc fr=>?_
 ·conv=>whnf
  refine aa true ?_;conv=>whnf
  refine aZ BE ?_;conv=>whnf
  refine aa true ?_;conv=>whnf
  refine bB (z:=true) ?_;conv=>whnf
  refine aq (z:=true) ?_;conv=>whnf
  subst hL;refine hQ h .aN [] (.inl ⟨rfl,rfl⟩) ⟨rfl,fun y=>Iff.rfl,?_,?_⟩ (Fr.refl _ _)
  ·intro i j hi;simp at hi
  ·intro i j h1 h2 h3;simp at h3
 ·conv=>whnf
  refine aa true ?_;conv=>whnf
  refine Is hs h12 fun h2 M k1 k2 k3 k4=>?_;conv=>whnf
  have Jy:=k2.len;have hd:FB M:=k2.dst hr.pl.oz;have iI:Fr h h2 []:=⟨Nat.le_trans fr.next k4.next,fun b hb _=>by
   rw[k4.keep b (Nat.lt_of_lt_of_le hb fr.next) (by simp;omega)];exact fr.keep b hb (by simp)⟩
  refine aJ (aa true ?_);conv=>whnf
  refine aG ?_;have xK:=hr.pl.mj;refine A8 (L:=M) (N:=L.length) xK Jy.symm hc _ 0 h2 .aN _ rfl k1 (Nat.zero_le _) (.inl ⟨rfl,rfl⟩) (fun o n k op e=>by cases e) iI ⟨rfl,rfl,rfl,rfl,trivial⟩ ?_;intro h3 v e3 g2 hi hf;show VC fs ms _ _ _ _ _ _;refine an 3 [(2,v)] ⟨g2,trivial⟩ (aq (z:=true) ?_);conv=>whnf
  refine hQ h3 v M hi ⟨Jy.symm,fun y=>?_,hd,by rw[←Jy];exact k3⟩ hf;rw[bZ,bZ];have:=k2.mem y;rw[←Jy];constructor
  ·rintro⟨i,hi,e⟩;obtain⟨j,_,j1,j2⟩:=this.2 ⟨i,Nat.zero_le _,hi,e⟩;exact⟨j,j1,j2⟩
  ·rintro⟨i,hi,e⟩;obtain⟨j,_,j1,j2⟩:=this.1 ⟨i,Nat.zero_le _,hi,e⟩;exact⟨j,j1,j2⟩
end Ir
end Go.Proofs.Ytenafeojcgmnhaa
