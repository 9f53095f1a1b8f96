/-
  Rank: an id more.
-/
import Derived.Test.YtenafeojcgmnhaaVRdE
import Derived.Test.YtenafeojcgmnhaaZA
set_option maxRecDepth 100000
set_option linter.unusedSimpArgs false
set_option linter.unusedVariables false
namespace Go.Proofs.Ytenafeojcgmnhaa
open Go Ads
namespace Ads
theorem fX{h:Heap}{b c:Nat}(hn:c≠b):(h.del b).get c=h.get c:=by rw[Heap.cL,if_neg hn]
theorem nU{h:Heap}{b s n cap:Nat}{op wr:Bool}{es:Nat}{cs:List AV}(hg:h.get b=some (.cells cs wr es))(hl:cs.length=n*s):eC s h (.sl b 0 n cap op)=some (n,cs):=by
 have b1:Nat.ble (0+n*s) cs.length=true:=Nat.ble_eq_true_of_le (by omega);show(h.aO b 0 (n*s)).map _=_;have:h.aO b 0 (n*s)=some cs:=by
  simp only[Heap.aO,Heap.row,hg,b1,cond_true,List.drop_zero];rw[←hl,List.take_length]
 rw[this];rfl
theorem rC{h:Heap}{s bytes b m:Nat}{vs cs:List AV}{x:AV}(hg:h.get b=some (.cells vs true s))(hv:vs.length=m*s)(hsrc:eC s h x=some (1,cs))(hf:bE cs=true)(hb:bytes≤1048576)(hm:m≤1048576):
  eV (.append s bytes) [.sl b 0 m m true,x] h=some (.sl h.next 0 (m+1) (m+1) true,(h.del b).new (.cells (vs++cs) true s)):=by
 have VU:(m+1)*bytes≤1048577*1048576:=Nat.mul_le_mul (by omega) hb;have b1:Nat.ble (m+1) m=false:=by cases hb:Nat.ble (m+1) m with|false=>rfl|true=>(have:=Nat.le_of_ble_eq_true hb;omega)
 have b2:Nat.ble ((m+1)*bytes) 140737488355328=true:=Nat.ble_eq_true_of_le (by omega);have b3:Nat.ble (m+1) 9223372036854775807=true:=Nat.ble_eq_true_of_le (by omega);have b4:Nat.ble (0+m*s) vs.length=true:=Nat.ble_eq_true_of_le (by omega);have b5:Nat.beq vs.length (0+m*s)=true:=by rw[hv,Nat.zero_add];exact Nat.beq_refl _
 have y7:h.aO b 0 (m*s)=some vs:=by
  simp only[Heap.aO,Heap.row,hg,b4,cond_true,List.drop_zero];rw[←hv,List.take_length]
 simp only[eV,l2,hsrc];show cond (bE cs) _ _=_;rw[hf,cond_true];show cond (Nat.beq 1 0&&Nat.ble m m) _ _=_;rw[show Nat.beq 1 0=false from rfl,Bool.false_and,cond_false,b1,cond_false,b2,b3,Bool.and_self,cond_true,hg,y7];show cond true (cond (true&&Nat.beq vs.length (0+m*s)&&Nat.beq m m&&Nat.beq s s) _ _) _=_;rw[b5,Nat.beq_refl,Nat.beq_refl];rfl
end Ads
namespace Ir
theorem Row.app{h:Heap}{k p:Nat}{S:List Nat}{L:List Id}{P:Nat→Nat}(hr:Row h k p S L P)(kp:k≠p)(lk:k<h.next)(lp:p<h.next)(xK:L.length≤64)(x:Id){src:AV}{LD:Nat}{op wr:Bool}{es:Nat}(hs:src=.sl h.next 0 1 LD op){g:Heap}(hg:g=h.new (.cells (ob x).cells wr es)):
  ∃rv,h.get p=some (.cells (rv::D5 P) true 0)∧∃Vg g',eV (.append 2 16) [rv,src] g=some (Vg,g')∧Fr h g' S∧g'.get k=h.get k∧g'.get p=h.get p∧h.next≤g'.next∧
   ∃r cap rest,Vg=.sl r 0 (L.length+1) cap true∧r≠k∧r≠p∧r<g'.next∧g'.get r=some (.cells (oc (L++[x])++rest) true 2)∧(L.length+1)*2+rest.length=cap*2∧(r∈S∨h.next≤r):=by
 subst hs;have hsrc:eC 2 g (.sl h.next 0 1 LD op)=some (1,(ob x).cells):=nU (by rw[hg];exact aB) rfl;have gn:g.next=h.next+1:=by rw[hg];rfl
 have rT:Fr h g S:=by rw[hg];exact(Fr.refl h S).new
 rcases hr with⟨hL,hS,hp⟩|⟨r,cap,rest,hS,UB,hcap,hh⟩
 ·subst hL;refine⟨.aN,hp,.sl g.next 0 1 1 true,g.new (.cells (ob x).cells true 2),sX (nx:=g.next) (tr:=g.m) (by omega) hsrc rfl,rT.new,?_,?_,?_,g.next,1,[],rfl,by omega,by omega,Nat.lt_succ_self _,?_,rfl,.inr (by omega)⟩
  ·rw[aH (by omega),hg,aH lk]
  ·rw[aH (by omega),hg,aH lp]
  ·show h.next≤g.next+1;omega
  ·rw[aB];simp[CF]
 ·have iz:h.get p=some (.cells (.sl r 0 L.length cap true::D5 P) true 0):=hh.hp;have y8:=iX L;have AU:g.get r=some (.cells (oc L++rest) true 2):=by rw[hg,aH hh.lr];exact hh.hr
  have UA:r∈S:=by rw[hS];simp
  have G2:=hh.ne;have hlr:=hh.lr;by_cases hroom:L.length<cap
  ·have yV:=Lz (bytes:=16) (nx:=g.next) (tr:=g.m) (op:=true) (l:=obs L) (rest:=rest) (y:=ob x) AU rfl (sL L) (DU L).symm hroom (by omega) hsrc rfl rfl;refine⟨_,iz,_,_,yV,?_,?_,?_,?_,r,cap,rest.drop 2,rfl,UB,G2.symm,?_,?_,?_,.inl UA⟩
   ·exact Fr.set (h1:=g) rT UA
   ·rw[show Heap.get (⟨g.next,Tr.set g.m r (.cells (aj (obs L++[ob x])++rest.drop 2) true 2)⟩:Heap) k=(g.set r (.cells (aj (obs L++[ob x])++rest.drop 2) true 2)).get k from rfl,bw (Ne.symm UB),hg,aH lk]
   ·rw[show Heap.get (⟨g.next,Tr.set g.m r (.cells (aj (obs L++[ob x])++rest.drop 2) true 2)⟩:Heap) p=(g.set r (.cells (aj (obs L++[ob x])++rest.drop 2) true 2)).get p from rfl,bw G2,hg,aH lp]
   ·show h.next≤g.next;omega
   ·show r<g.next;omega
   ·rw[show Heap.get (⟨g.next,Tr.set g.m r (.cells (aj (obs L++[ob x])++rest.drop 2) true 2)⟩:Heap) r=(g.set r (.cells (aj (obs L++[ob x])++rest.drop 2) true 2)).get r from rfl,aV];simp[oc,obs]
   ·rw[List.length_drop];omega
  ·have hc:cap=L.length:=by omega
   have z7:rest=[]:=List.eq_nil_of_length_eq_zero (by omega);subst z7;subst hc;rw[List.append_nil] at AU;refine⟨_,iz,_,_,rC (bytes:=16) AU y8 hsrc rfl (by omega) (by omega),?_,?_,?_,?_,g.next,L.length+1,[],rfl,by omega,by omega,Nat.lt_succ_self _,?_,by simp,.inr (by omega)⟩
   ·refine⟨?_,fun c hc hn=>?_⟩
    ·show h.next≤g.next+1;omega
    ·rw[aH (show c<(g.del r).next by show c<g.next;omega),fX (by rintro rfl;exact hn UA)];exact rT.keep c hc hn
   ·rw[aH (show k<(g.del r).next by show k<g.next;omega),fX (Ne.symm UB),hg,aH lk]
   ·rw[aH (show p<(g.del r).next by show p<g.next;omega),fX G2,hg,aH lp]
   ·show h.next≤g.next+1;omega
   ·rw[show g.next=(g.del r).next from rfl,aB,List.append_nil,vE,CF]
theorem mG.own{h:Heap}{k p:Nat}{S:List Nat}{L:List Id}{P:Nat→Nat}(hr:mG h k p S L P):k∈S∧p∈S∧∀b∈S,b<h.next:=by
 rcases hr.row with⟨_,hS,_⟩|⟨r,cap,rest,hS,_,_,hh⟩
 ·subst hS;refine⟨by simp,by simp,fun b hb=>?_⟩;simp at hb;rcases hb with rfl|rfl
  ·exact hr.lk
  ·exact hr.lp
 ·subst hS;refine⟨by simp,by simp,fun b hb=>?_⟩;simp at hb;rcases hb with rfl|rfl|rfl
  ·exact hr.lk
  ·exact hr.lp
  ·exact hh.lr
theorem Kv{L:List Id}{P:Nat→Nat}{x:Id}(hf:qt L P)(hx:x.1<64)(h0:P x.1=0):El (L++[x]) P L.length:=by
 have hl:(L++[x]).length=L.length+1:=by simp
 refine⟨by omega,fun i hi=>?_,fun i j hi hj he=>?_,fun i hi hn=>?_,fun d hd hn hp=>?_⟩
 ·by_cases h:i=L.length
  ·subst h;rw[iL];exact hx
  ·rw[ew (by omega)];exact hf.small i (by omega)
 ·have key:∀i,i<L.length→(gI L i).1=x.1→False:=by
   intro i hi e;have:=hf.pl i hi;rw[e] at this;omega
  by_cases h1:i=L.length
  ·subst h1;by_cases h2:j=L.length
   ·exact h2.symm
   ·rw[iL,ew (by omega)] at he;exact(key j (by omega) he.symm).elim
  ·rw[ew (by omega)] at he;by_cases h2:j=L.length
   ·subst h2;rw[iL] at he;exact(key i (by omega) he).elim
   ·rw[ew (by omega)] at he;exact hf.oz i j (by omega) (by omega) he
 ·rw[ew (by omega)];exact hf.pl i (by omega)
 ·have hb:=hf.back d hd hp;refine⟨by omega,?_⟩;rw[ew (by omega)];exact hb.2
theorem JL{L:List Id}{x:Id}(h:Hp L):IJ (L++[x]) L.length:=by
 have hl:(L++[x]).length=L.length+1:=by simp
 refine⟨fun i h0 hi h1 h2=>?_,fun c h0 hc hp h1=>by omega⟩;rw[ew (by omega),ew (by omega)];exact h i h0 (by omega)
theorem JB{L:List Id}{x:Id}:IY (L++[x]) L.length:=fun c h0 hc hp=>by simp at hc;omega
theorem uc{h:Heap}{k p:Nat}{S:List Nat}{L:List Id}{P:Nat→Nat}(hr:mG h k p S L P)(id key:Int){Q:AV→Heap→Prop}(h1:id<0∨64≤id→Q (.int .i64 9) h)
  (h2:∀y,y∈L→id=y.1→Q (.int .i64 141) h)
  (h3:∀i:Nat,id=i→i<64→(∀y∈L,y.1≠i)→∀h' S' L' P',mG h' k p S' L' P'→(∀y,y∈L'↔y∈L∨y=(i,key))→Own h h' S S'→Q (.int .i64 0) h'):VD fs ms 14 [.ptr k 0,.int .i64 id,.int .i64 key] h Q:=by
 refine aE (af:=Oz) true rfl (Nat.le_of_ble_eq_true rfl) ?_;conv=>whnf
 refine yz hr id ?_;conv=>whnf
 by_cases hb:id<0∨64≤id
 ·rw[if_pos hb];conv=>whnf
  exact h1 hb
 rw[if_neg hb];conv=>whnf
 refine I3 hr id (fun h=>absurd h hb) (fun i hi i64 h0=>?_) fun i j hi i64 hj hP hid=>?_
 ·conv=>whnf
  subst hi;refine⟨_,bQ hr.hk rfl,?_⟩;conv=>whnf
  refine⟨_,bQ hr.hk rfl,?_⟩;conv=>whnf
  obtain⟨kS,pS,hS⟩:=hr.own;have xK:=hr.pl.mj;obtain⟨rv,MM,Vg,g',yV,rT,gk,gp,gn,r,cap,rest,e1,rk,rp,rl,gr,gc,rS⟩:=hr.row.app hr.ne hr.lk hr.lp xK (i,key) (LD:=1) (op:=false) (wr:=true) (es:=0) rfl (g:=h.new (.cells (ob (i,key)).cells true 0)) rfl;refine⟨_,bQ MM rfl,?_⟩;conv=>whnf
  refine bA yV fun g1 eg=>?_;subst eg;conv=>whnf
  refine bA (fQ (gp.trans MM) (by subst e1;rfl) (by rw[List.length_cons];show 0+1≤_;omega) (by subst e1;rfl)) fun g2 e2=>?_;conv=>whnf
  refine⟨eA (by(conv=>whnf);repeat' (first|exact trivial|(exact bQ hr.hk rfl)|(exact bQ (gk.trans hr.hk) rfl)|(exact⟨rfl,rfl,.inr ⟨_,_,rfl⟩⟩)|(refine⟨rfl,rfl,.inl ⟨rfl,fun o ho=>?_⟩⟩;cases ho;first|rfl|(exact bQ hr.hk rfl)|(exact bQ (gk.trans hr.hk) rfl))|(exact⟨rfl,.inr ⟨_,_,rfl⟩⟩)|(refine⟨rfl,.inl ⟨rfl,fun i o hi ho=>?_⟩⟩;cases hi;cases ho;first|rfl|(exact bQ hr.hk rfl)|(exact bQ (gk.trans hr.hk) rfl))|(refine And.intro (fun dY=>(Bool.false_ne_true dY).elim) ?_<;>conv=>whnf)|(refine And.intro (fun _=>?_) ?_<;>conv=>whnf)|(refine And.intro ?_ ?_<;>conv=>whnf))),?_⟩;conv=>whnf
  have hpn:=hr.lp;have hkn:=hr.lk;have Ty:g2.get k=some (.cells [.ptr p 0] true 0):=by rw[e2,bw hr.ne];exact gk.trans hr.hk
  have lV:mJ g2 p r cap true (L++[(i,key)]) P rest:=by
   refine⟨?_,?_,rp.symm,?_,?_⟩
   ·rw[e2,aV,e1];show some (cw.cells (.sl r 0 (L.length+1) cap true::Heap.splice (D5 P) 0 []) true 0)=_;rw[ez,List.length_append];rfl
   ·rw[e2,bw rp];exact gr
   ·rw[e2];show p<g1.next;omega
   ·rw[e2];exact rl
  have iI:Fr h g2 S:=by rw[e2];exact rT.set pS
  clear e2;refine⟨_,bQ Ty rfl,?_⟩;conv=>whnf
  refine⟨_,bQ Ty rfl,?_⟩;conv=>whnf
  refine⟨_,lV.row,?_⟩;conv=>whnf
  have hl:(L++[((i,key):Id)]).length=L.length+1:=by simp
  rw[(Bc (M:=L) (x:=(i,key))).resolve_right (by omega)];refine NO lV (by omega) (by omega) (Kv hr.pl i64 h0) (JL hr.hp) fun h4 L4 P4 a4 K9 k1 k2 k3 k4 k5 k6 k7 wL=>?_;conv=>whnf
  have Wd:k<g2.next:=Nat.lt_of_lt_of_le hkn iI.next;refine h3 i rfl i64 (hr.pl.no h0) h4 [k,p,r] L4 P4 ⟨?_,hr.ne,Nat.lt_of_lt_of_le Wd wL.next,K9.lp,.inr ⟨r,cap,rest,rfl,rk,by omega,K9⟩,k3,k4.full (k7 JB)⟩ (fun y=>?_) ⟨?_,fun b hb=>?_⟩
  ·rw[wL.keep k Wd (by simp[hr.ne,Ne.symm rk])];exact Ty
  ·rw[k6.mem];simp
  ·refine⟨Nat.le_trans iI.next wL.next,fun b hb hn=>?_⟩;have hbp:b≠p:=by rintro rfl;exact hn pS
   have wM:b≠r:=by
    rintro rfl;rcases rS with h|h
    ·exact hn h
    ·omega
   rw[wL.keep b (Nat.lt_of_lt_of_le hb iI.next) (by simp[hbp,wM])];exact iI.keep b hb hn
  ·simp at hb;rcases hb with rfl|rfl|rfl
   ·exact .inl kS
   ·exact .inl pS
   ·exact rS
 ·conv=>whnf
  subst hi;refine h2 (gI L j) (bZ.2 ⟨j,hj,rfl⟩) (by rw[hid])
end Ir
end Go.Proofs.Ytenafeojcgmnhaa
