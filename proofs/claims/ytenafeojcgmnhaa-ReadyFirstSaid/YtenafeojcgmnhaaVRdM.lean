/-
  Ready: the document's Jobs.
-/
import Derived.Test.YtenafeojcgmnhaaVRdL
set_option maxRecDepth 100000
set_option linter.unusedSimpArgs false
set_option linter.unusedVariables false
namespace Go.Proofs.Ytenafeojcgmnhaa
open Go Ads
namespace Ads
theorem mM{h:Heap}{s bytes b m n:Nat}{vs cs:List AV}{x:AV}(hg:h.get b=some (.cells vs true s))(hv:vs.length=m*s)(hsrc:eC s h x=some (n+1,cs))(hf:bE cs=true)(hb:bytes≤1048576)(hm:m+n≤1048576):
  eV (.append s bytes) [.sl b 0 m m true,x] h=some (.sl h.next 0 (m+(n+1)) (m+(n+1)) true,(h.del b).new (.cells (vs++cs) true s)):=by
 have VU:(m+(n+1))*bytes≤1048577*1048576:=Nat.mul_le_mul (by omega) hb;have b1:Nat.ble (m+(n+1)) m=false:=by
  cases hb:Nat.ble (m+(n+1)) m with
  |false=>rfl
  |true=>have:=Nat.le_of_ble_eq_true hb;omega
 have b2:Nat.ble ((m+(n+1))*bytes) 140737488355328=true:=Nat.ble_eq_true_of_le (by omega);have b3:Nat.ble (m+(n+1)) 9223372036854775807=true:=Nat.ble_eq_true_of_le (by omega);have b4:Nat.ble (0+m*s) vs.length=true:=Nat.ble_eq_true_of_le (by omega);have b5:Nat.beq vs.length (0+m*s)=true:=by rw[hv,Nat.zero_add];exact Nat.beq_refl _
 have y7:h.aO b 0 (m*s)=some vs:=by
  simp only[Heap.aO,Heap.row,hg,b4,cond_true,List.drop_zero];rw[←hv,List.take_length]
 simp only[eV,l2,hsrc];show cond (bE cs) _ _=_;rw[hf,cond_true];show cond (Nat.beq (n+1) 0&&Nat.ble m m) _ _=_;rw[show Nat.beq (n+1) 0=false from rfl,Bool.false_and,cond_false,b1,cond_false,b2,b3,Bool.and_self,cond_true,hg,y7];show cond true (cond (true&&Nat.beq vs.length (0+m*s)&&Nat.beq m m&&Nat.beq s s) _ _) _=_;rw[b5,Nat.beq_refl,Nat.beq_refl];rfl
theorem FV{h:Heap}{s bytes b m:Nat}{x:AV}{cs:List AV}(hsrc:eC s h x=some (0,cs))(hf:bE cs=true):eV (.append s bytes) [.sl b 0 m m true,x] h=some (.sl b 0 m m true,h):=by
 simp only[eV,l2,hsrc];show cond (bE cs) _ _=_;rw[hf,cond_true];show cond (Nat.beq 0 0&&Nat.ble m m) _ _=_;rw[Nat.ble_eq_true_of_le (Nat.le_refl m)];rfl
theorem C2{h:Heap}{b o s n cap:Nat}{op wr:Bool}{es:Nat}{vs:List AV}(hg:h.get b=some (.cells vs wr es))(hl:o+n*s≤vs.length):eC s h (.sl b o n cap op)=some (n,(vs.drop o).take (n*s)):=by
 have b1:Nat.ble (o+n*s) vs.length=true:=Nat.ble_eq_true_of_le hl;show(h.aO b o (n*s)).map _=_;simp only[Heap.aO,Heap.row,hg,b1,cond_true];rfl
end Ads
namespace Ir
def lY(p:Nat→Bool):List Nat→Nat
 |[]=>0
 |x::l=>if p x then lY p l+1 else 0
theorem rG(p:Nat→Bool):∀l,lY p l≤l.length
 |[]=>Nat.le_refl _
 |x::l=>by
  have:=rG p l;unfold lY;split
  ·simp;omega
  ·simp
theorem yG(p:Nat→Bool):∀l j,j<lY p l→p (l.getD j 0)=true
 |[],j,h=>by simp[lY] at h
 |x::l,j,h=>by
  unfold lY at h;split at h
  ·rename_i hp;cases j with
   |zero=>exact hp
   |succ j=>exact yG p l j (by omega)
  ·omega
theorem yF(p:Nat→Bool):∀l,lY p l<l.length→p (l.getD (lY p l) 0)=false
 |[],h=>by simp at h
 |x::l,h=>by
  unfold lY at h⊢;split
  ·rename_i hp;rw[if_pos hp] at h;exact yF p l (by simpa using h)
  ·rename_i hp;simpa using hp
def wV(D:List Int)(i:Nat)(x:Nat):Bool:=decide (gD D x≤gD D i)
def dj(D:List Int):Nat→List Nat
 |0=>[]
 |i+1=>if gD D i<0 then dj D i else(dj D i).take (lY (wV D i) (dj D i))++[i]++(dj D i).drop (lY (wV D i) (dj D i))
theorem yJ(D:List Int):∀i,(dj D i).length≤i
 |0=>Nat.le_refl _
 |i+1=>by
  have:=yJ D i;have:=rG (wV D i) (dj D i);unfold dj;split
  ·omega
  ·simp only[List.length_append,List.length_take,List.length_drop,List.length_singleton];omega
theorem uW(D:List Int):∀i,∀x∈dj D i,x<i
 |0,x,h=>by simp[dj] at h
 |i+1,x,h=>by
  unfold dj at h;split at h
  ·have:=uW D i x h;omega
  ·simp only[List.mem_append,List.mem_singleton] at h;rcases h with(h|h)|h
   ·have:=uW D i x (List.mem_of_mem_take h);omega
   ·omega
   ·have:=uW D i x (List.mem_of_mem_drop h);omega
def nl(l:List Nat):List Int:=l.map fun x:Nat=>(x:Int)
theorem jr(l:List Nat):(nl l).length=l.length:=by simp[nl]
theorem HL(l:List Nat)(i:Nat):(nl l).getD i 0=((l.getD i 0:Nat):Int):=by
 simp only[nl,List.getD_eq_getElem?_getD,List.getElem?_map];cases l[i]?<;>rfl
theorem JV{m b es i:Nat}{op:Bool}{D:List Int}{h:Heap}{lo:Nat}{v:AV}{l:List Nat}{B:Nat}{Q:AX→Env→Heap→Prop}(hh:qp h m b es op D)(hv:dr lo h v (nl l))(hl:∀x∈l,x<D.length)(hi:i<D.length)(hN:l.length≤1000)
  (hQ:∀e',Tr.get e' 0=some (.ptr m 0)→Tr.get e' 3=some v→Tr.get e' 4=some (.int .i64 ((i:Nat):Int))→Tr.get e' 5=some (.int .i64 ((lY (wV D i) l:Nat):Int))→Q (.exit 2) e' h):
  ∀(n k:Nat) (env:Env),lY (wV D i) l-k=n→k≤lY (wV D i) l→aW env [(0,.ptr m 0),(3,v),(4,.int .i64 ((i:Nat):Int)),(5,.int .i64 ((k:Nat):Int))]→
  VC fs ms B false (.loop fk) env h Q:=by
 have kK:=rG (wV D i) l;intro n;induction n using Nat.strongRecOn with
 |ind n ih=>
 intro k env hn hk bM;refine an 3 [(0,.ptr m 0),(3,v),(4,.int .i64 ((i:Nat):Int)),(5,.int .i64 ((k:Nat):Int))] bM ?_;refine bB (z:=true) ?_;conv=>whnf
 refine cM hv.read.1 ?_;conv=>whnf
 rw[jr];refine br (fun hc=>?_) (fun hc=>?_)<;>(try rw[hc])<;>(conv=>whnf)
 ·have hlt:k<l.length:=by have:=of_decide_eq_true hc;omega
  refine⟨_,hh.row,?_⟩;conv=>whnf
  obtain⟨b',r1,r2⟩:=hv.read.2 k (by rw[jr];exact hlt);rw[HL] at r2;have hx:l.getD k 0<D.length:=by
   rw[List.getD_eq_getElem?_getD,List.getElem?_eq_getElem hlt];exact hl _ (List.getElem_mem hlt)
  refine⟨_,r1,?_⟩;conv=>whnf
  refine⟨_,r2,?_⟩;conv=>whnf
  refine⟨_,bh hx,?_⟩;conv=>whnf
  refine⟨_,hh.get hx,?_⟩;conv=>whnf
  refine⟨_,hh.row,?_⟩;conv=>whnf
  refine⟨_,bh hi,?_⟩;conv=>whnf
  refine⟨_,hh.get hi,?_⟩;conv=>whnf
  by_cases wN:k<lY (wV D i) l
  ·have hp:=yG (wV D i) l k wN;refine IK (hp) (fun hc=>?_)
   (try rw[hc])
   conv=>whnf
   exact ih (lY (wV D i) l-(k+1)) (by omega) (k+1) _ rfl (by omega) ⟨rfl,rfl,rfl,aS (by omega),trivial⟩
  ·have SK:k=lY (wV D i) l:=by omega
   have hp:=yF (wV D i) l (by omega);rw[←SK] at hp;refine od (hp) (fun hc=>?_)
   (try rw[hc])
   conv=>whnf
   exact hQ _ rfl rfl rfl (by rw[←SK];rfl)
 ·have hge:l.length≤k:=by have:=of_decide_eq_false hc;omega
  have SK:k=lY (wV D i) l:=by omega
  exact hQ _ rfl rfl rfl (by rw[←SK];rfl)
theorem dr.pre{lo:Nat}{h:Heap}{v:AV}{l:List Int}(hr:dr lo h v l)(hl:l.length≤1000){k:Nat}(hk:k≤l.length):
  ∃s1,pV (.slice 1 false true false) [v,.int .i64 ((k:Nat):Int)]=some s1∧∃v1 g1,eV (.append 1 8) [.aN,s1] h=some (v1,g1)∧dr h.next g1 v1 (l.take k)∧Fr h g1 []:=by
 rcases hr with⟨rfl,rfl⟩|⟨b,h1,h2,rfl,h4⟩
 ·have:k=0:=by simpa using hk
  subst this;exact⟨.aN,rfl,.aN,h,rfl,.inl ⟨rfl,rfl⟩,Fr.refl _ _⟩
 ·refine⟨_,CQ hk,?_⟩;have hsrc:eC 1 h (.sl b 0 k l.length true)=some (k,((ints l).drop 0).take (k*1)):=C2 h4 (by rw[ck];omega);rw[List.drop_zero,Nat.mul_one,ints,←List.map_take] at hsrc;cases k with
  |zero=>exact⟨.aN,h,Er (nx:=h.next) (tr:=h.m) hsrc rfl,.inl ⟨rfl,rfl⟩,Fr.refl _ _⟩
  |succ k=>
   have hlt:(l.take (k+1)).length=k+1:=by rw[List.length_take];omega
   refine⟨_,_,sW (nx:=h.next) (tr:=h.m) (by omega) (by omega) hsrc (qO (l.take (k+1))),.inr ⟨h.next,Nat.le_refl _,Nat.lt_succ_self _,by rw[hlt],aB⟩,(Fr.refl h []).new⟩
theorem dr.post{lo Hz:Nat}{h:Heap}{v v2:AV}{l l2:List Int}(hr:dr lo h v l)(xN:dr Hz h v2 l2)(hne:0<l2.length)(hl:l.length≤1000)(Of:l2.length≤1000)(hlo:Hz≤h.next){k:Nat}(hk:k≤l.length):
  ∃s1,pV (.slice 1 true false false) [v,.int .i64 ((k:Nat):Int)]=some s1∧∃v3 g3,eV (.append 1 8) [v2,s1] h=some (v3,g3)∧dr Hz g3 v3 (l2++l.drop k)∧h.next≤g3.next∧∀c,c<Hz→c<h.next→g3.get c=h.get c:=by
 rcases xN with⟨rfl,_⟩|⟨b2,g1,g2,rfl,g4⟩
 ·simp at hne
 have hsame:∀{s1},eC 1 h s1=some (0,[])→l.drop k=[]→∃v3 g3,eV (.append 1 8) [.sl b2 0 l2.length l2.length true,s1] h=some (v3,g3)∧dr Hz g3 v3 (l2++l.drop k)∧h.next≤g3.next∧∀c,c<Hz→c<h.next→g3.get c=h.get c:=by
  intro s1 hs hd;rw[hd,List.append_nil];exact⟨_,_,FV hs rfl,.inr ⟨b2,g1,g2,rfl,g4⟩,Nat.le_refl _,fun c _ _=>rfl⟩
 rcases hr with⟨rfl,rfl⟩|⟨b,h1,h2,rfl,h4⟩
 ·have:k=0:=by simpa using hk
  subst this;exact⟨.aN,rfl,hsame rfl rfl⟩
 ·have bk:Nat.ble k l.length=true:=Nat.ble_eq_true_of_le hk;have b3:bounds l.length l.length true false false [.int .i64 ((k:Nat):Int)]=some (k,l.length,l.length):=by
   show cond (Nat.ble k l.length&&Nat.ble l.length l.length&&Nat.ble l.length l.length) (some (k,l.length,l.length)) none=_;rw[bk,Nat.ble_eq_true_of_le (Nat.le_refl l.length)];rfl
  have Oj:pV (.slice 1 true false false) [.sl b 0 l.length l.length true,.int .i64 ((k:Nat):Int)]=cond (Nat.beq l.length k&&Nat.beq l.length l.length&&(true&&!Nat.beq k 0)) (some (.rest b 0 (k*1))) (some (.sl b (0+cond (Nat.beq l.length k) 0 (k*1)) (l.length-k) (l.length-k) true)):=by
   show qZ 1 true false false (.sl b 0 l.length l.length true) [.int .i64 ((k:Nat):Int)]=_;simp only[qZ,KR,b3];rfl
  by_cases hkn:k=l.length
  ·subst hkn;have hd:l.drop l.length=[]:=List.drop_length;by_cases h0:l.length=0
   ·refine⟨.sl b 0 0 0 true,?_,hsame ?_ hd⟩
    ·rw[Oj,h0];rfl
    ·have:=C2 (s:=1) (o:=0) (n:=0) (cap:=0) (op:=true) h4 (by omega);rw[Nat.zero_mul,List.take_zero] at this;exact this
   ·refine⟨.rest b 0 (l.length*1),?_,hsame rfl hd⟩;have hz:Nat.beq l.length 0=false:=by
     cases hb:Nat.beq l.length 0 with
     |false=>rfl
     |true=>exact absurd (Nat.eq_of_beq_eq_true hb) h0
    rw[Oj,Nat.beq_refl,hz];rfl
  ·have hz:Nat.beq l.length k=false:=by
    cases hb:Nat.beq l.length k with
    |false=>rfl
    |true=>exact absurd (Nat.eq_of_beq_eq_true hb).symm hkn
   obtain⟨n,hn⟩:∃n,l.length-k=n+1:=⟨l.length-k-1,by omega⟩;refine⟨.sl b k (n+1) (n+1) true,?_,?_⟩
   ·rw[Oj,hz,hn];show some (AV.sl b (0+k*1) (n+1) (n+1) true)=_;rw[Nat.zero_add,Nat.mul_one]
   ·have hsrc:eC 1 h (.sl b k (n+1) (n+1) true)=some (n+1,((ints l).drop k).take ((n+1)*1)):=C2 h4 (by rw[ck];omega);have VL:(l.drop k).length=n+1:=by rw[List.length_drop];omega
    rw[Nat.mul_one,ints,←List.map_drop,←List.map_take,List.take_of_length_le (by omega)] at hsrc;have hall:ints l2++ints (l.drop k)=ints (l2++l.drop k):=by simp[ints]
    refine⟨_,_,mM g4 (by rw[ck,Nat.mul_one]) hsrc (qO (l.drop k)) (by omega) (by omega),.inr ⟨h.next,hlo,Nat.lt_succ_self _,by rw[List.length_append,VL],?_⟩,Nat.le_succ _,fun c hc yY=>?_⟩
    ·rw[←hall];exact aB (h:=h.del b2)
    ·exact(aH (h:=h.del b2) yY).trans (fX (by omega))
theorem ET{m b es:Nat}{op:Bool}{D:List Int}{h0:Heap}{B:Nat}{Q:AX→Env→Heap→Prop}(hD:D.length≤4)(hm:m<h0.next)(hb:b<h0.next):
  ∀(n i:Nat) (h:Heap) (v:AV) (env:Env),D.length-i=n→i≤D.length→qp h m b es op D→dr h0.next h v (nl (dj D i))→Fr h0 h []→aW env [(0,.ptr m 0),(3,v),(4,.int .i64 ((i:Nat):Int))]→
  (∀(h':Heap) (v':AV) (e':Env),Tr.get e' 3=some v'→dr h0.next h' v' (nl (dj D D.length))→Fr h0 h' []→Q (.exit 0) e' h')→
  VC fs ms B false (.loop fj) env h Q:=by
 intro n;induction n using Nat.strongRecOn with
 |ind n ih=>
 intro i h v env hn hi hh hv kC bM hQ;refine an 3 [(0,.ptr m 0),(3,v),(4,.int .i64 ((i:Nat):Int))] bM ?_;refine cK (aa true ?_);conv=>whnf
 refine⟨_,hh.row,?_⟩;conv=>whnf
 refine br (fun hc=>?_) (fun hc=>?_)<;>(try rw[hc])<;>(conv=>whnf)
 ·have hlt:i<D.length:=by have:=of_decide_eq_true hc;omega
  have VL:=yJ D i;have Oc:=uW D i;refine aJ (aG ?_);refine aa true ?_;conv=>whnf
  refine DF hh _ ?_;conv=>whnf
  have T7:n8 D (i:Int)=decide (0≤gD D i):=by
   rw[n8,decide_eq_true (show(0:Int)≤(i:Int) by omega),decide_eq_true (show(i:Int)<(D.length:Int) by omega),Bool.true_and,Bool.true_and,Int.toNat_natCast]
  rw[T7];by_cases hneg:gD D i<0
  ·refine IK (by rw[decide_eq_false (by omega)];rfl) (fun hc=>?_)
   (try rw[hc])
   conv=>whnf
   show VC fs ms _ _ _ _ _ _;refine an 3 [(0,.ptr m 0),(3,v),(4,.int .i64 ((i:Nat):Int))] ⟨rfl,rfl,rfl,trivial⟩ (aq (z:=true) ?_);conv=>whnf
   refine ih (D.length-(i+1)) (by omega) (i+1) h v _ rfl (by omega) hh (by unfold dj;rw[if_pos hneg];exact hv) kC ⟨rfl,rfl,aS (by omega),trivial⟩ hQ
  ·refine od (by rw[decide_eq_true (by omega)];rfl) (fun hc=>?_)
   (try rw[hc])
   conv=>whnf
   refine aa true ?_;conv=>whnf
   refine aJ (aG ?_);refine JV hh hv (fun x hx=>by have:=Oc x hx;omega) hlt (by omega) ?_ _ 0 _ rfl (Nat.zero_le _) ⟨rfl,rfl,rfl,rfl,trivial⟩;intro e1 g0 g3 g4 g5;show VC fs ms _ _ _ _ _ _;have wN:=rG (wV D i) (dj D i);generalize hK:lY (wV D i) (dj D i)=K at*;refine an 3 [(0,.ptr m 0),(3,v),(4,.int .i64 ((i:Nat):Int)),(5,.int .i64 ((K:Nat):Int))] ⟨g0,g3,g4,g5,trivial⟩ ?_;refine aa true ?_;conv=>whnf
   refine aa true ?_;conv=>whnf
   obtain⟨s1,p1,v1,h1,p2,p3,p4⟩:=hv.pre (by rw[jr];omega) (k:=K) (by rw[jr];exact wN);refine⟨_,p1,?_⟩;conv=>whnf
   refine bA p2 fun wz mz=>?_;subst mz;conv=>whnf
   refine aa true ?_;conv=>whnf
   have l0:=kC.next;have l1:=p4.next;have ltk:((nl (dj D i)).take K).length≤4:=by rw[List.length_take,jr];omega
   obtain⟨v2,h2,a1,a2,a3,a4,a5⟩:=p3.app l1 (by omega) ((i:Nat):Int);refine bA a1 fun pN zY=>?_;subst zY;conv=>whnf
   refine aq (z:=true) ?_;conv=>whnf
   have off1:∀c,c<h.next→qo v1 c:=by
    intro c hc;rcases p3 with⟨_,rfl⟩|⟨b',q1,_,rfl,_⟩
    ·intro o n k op e;cases e
    ·intro o n k op e;cases e;omega
   have iI:Fr h pN []:=⟨by omega,fun c hc _=>by rw[a4 c (by omega) (off1 c hc)];exact p4.keep c hc (by simp)⟩;have JM:=hv.keep iI;obtain⟨s3,c1,v3,h3,c2,c3,c4,c5⟩:=JM.post a2 (by simp) (by rw[jr];omega) (by rw[List.length_append];simp;omega) (by omega) (k:=K) (by rw[jr];exact wN);refine⟨_,c1,?_⟩;conv=>whnf
   refine bA c2 fun EJ Jg=>?_;subst Jg;conv=>whnf
   have ql:Fr h EJ []:=⟨by omega,fun c hc _=>by rw[c5 c hc (by omega)];exact iI.keep c hc (by simp)⟩;show VC fs ms _ _ _ _ _ _;refine an 3 [(0,.ptr m 0),(3,v3),(4,.int .i64 ((i:Nat):Int))] ⟨rfl,rfl,rfl,trivial⟩ (aq (z:=true) ?_);conv=>whnf
   have hdj:nl (dj D (i+1))=(nl (dj D i)).take K++[((i:Nat):Int)]++(nl (dj D i)).drop K:=by
    rw[show dj D (i+1)=(dj D i).take K++[i]++(dj D i).drop K by rw[dj,if_neg hneg,hK]];simp[nl]
   refine ih (D.length-(i+1)) (by omega) (i+1) EJ v3 _ rfl (by omega) (hh.keep ql (by simp) (by simp)) ?_ (kC.trans ql) ⟨rfl,rfl,aS (by omega),trivial⟩ hQ;rw[hdj];rcases c3 with⟨x1,x2⟩|⟨b',x1,x2,x3,x4⟩
   ·exact .inl ⟨x1,x2⟩
   ·exact .inr ⟨b',by omega,x2,x3,x4⟩
 ·have hge:i=D.length:=by have:=of_decide_eq_false hc;omega
  subst hge;exact hQ h v _ rfl hv kC
theorem zg{h:Heap}{m b es:Nat}{op:Bool}{D:List Int}(hh:qp h m b es op D)(hD:D.length≤4){Q:AV→Heap→Prop}(hQ:∀h' v,dr h.next h' v (nl (dj D D.length))→Fr h h' []→Q v h'):VD fs ms 60 [.ptr m 0] h Q:=by
 refine bC (af:=R4) rfl (Nat.le_of_ble_eq_true rfl) ?_;conv=>whnf
 refine aa true ?_;conv=>whnf
 refine aa true ?_;conv=>whnf
 refine aJ (aa true ?_);conv=>whnf
 refine aG ?_;refine ET hD hh.lm hh.lb _ 0 h .aN _ rfl (Nat.zero_le _) hh (.inl ⟨rfl,rfl⟩) (Fr.refl _ _) ⟨rfl,rfl,rfl,trivial⟩ ?_;intro h1 v e1 g3 hi hf;show VC fs ms _ _ _ _ _ _;refine an 3 [(3,v)] ⟨g3,trivial⟩ (aq (z:=true) ?_);conv=>whnf
 exact hQ h1 v hi hf
end Ir
end Go.Proofs.Ytenafeojcgmnhaa
