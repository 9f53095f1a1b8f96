/-
  Room: who has the processor alone; who goes on; the jobs. Room: what changes the document's room: its jobs. Room: the document's Lock and Unlock, End, Release. Room: the document's End, Release. Room: the document's New. Room: what both rooms answer of a task; do both stand alike? Room: a call of both; RoomPlays.
-/
import Derived.Test.YtnlcabhfkpafmaaGreatZH
import Derived.Test.YtnlcabhfkpafmaaGreatZC
import Derived.Test.YtnlcabhfkpafmaaGreatZG
set_option maxRecDepth 100000
set_option linter.unusedSimpArgs false
set_option linter.unusedVariables false
namespace Go.Proofs.YtnlcabhfkpafmaaGreat
open Go Ads
namespace Ir
def Ay(st:St)(a s:Int)(b:Bool):Prop:=((∀(i:Nat) (j:Jb),st.j[i]?=some (some j)→j.s<2)∧a=0∧s=0∧b=false)∨
 ∃(i:Nat) (j:Jb),st.j[i]?=some (some j)∧2≤j.s∧(∀(m:Nat) (j':Jb),m<i→st.j[m]?=some (some j')→j'.s<2)∧a=((i:Nat):Int)∧s=j.s∧b=true
theorem Ay.uniq{st:St}{a s a' s':Int}{b b':Bool}(h:Ay st a s b)(h':Ay st a' s' b'):a=a'∧s=s'∧b=b':=by
 rcases h with⟨n1,rfl,rfl,rfl⟩|⟨i,j,hj,hs,hm,rfl,rfl,rfl⟩<;>rcases h' with⟨n2,rfl,rfl,rfl⟩|⟨i',j',hj',hs',hm',rfl,rfl,rfl⟩
 ·exact⟨rfl,rfl,rfl⟩
 ·have:=n1 i' j' hj';omega
 ·have:=n2 i j hj;omega
 ·have e:i=i':=by
   rcases Nat.lt_trichotomy i i' with h|h|h
   ·have:=hm' i j h hj;omega
   ·exact h
   ·have:=hm i' j' h hj';omega
  subst e;rw[hj] at hj';cases hj'
  exact⟨rfl,rfl,rfl⟩
def He(st:St)(a:Int)(b:Bool):Prop:=(∃(i:Nat) (j:Jb),st.j[i]?=some (some j)∧2≤j.s∧(∀(m:Nat) (j':Jb),m<i→st.j[m]?=some (some j')→j'.s<2)∧a=((i:Nat):Int)∧b=true)∨
 ((∀(i:Nat) (j:Jb),st.j[i]?≠some (some j))∧a=0∧b=false)∨
 ((∀(i:Nat) (j:Jb),st.j[i]?=some (some j)→j.s<2)∧∃(i:Nat) (j:Jb),O0 st i j∧((j.g=true∨lvl st.T i>iA st.T st.L)∧a=((i:Nat):Int)∧b=true∨(j.g=false∧¬lvl st.T i>iA st.T st.L)∧a=(qw st.L).1∧b=(qw st.L).2))
theorem O0.uniq{st:St}{i i':Nat}{j j':Jb}(h:O0 st i j)(h':O0 st i' j'):i=i'∧j=j':=by
 have h1:=h.2 i' j' h'.1;have h2:=h'.2 i j h.1;rw[mG] at h1 h2;have e:i=i':=by simp only at h1 h2;omega
 subst e;have:=h.1;rw[h'.1] at this;cases this
 exact⟨rfl,rfl⟩
theorem He.uniq{st:St}{a a':Int}{b b':Bool}(h:He st a b)(h':He st a' b'):a=a'∧b=b':=by
 rcases h with⟨i,j,hj,hs,hm,rfl,rfl⟩|⟨n1,rfl,rfl⟩|⟨n1,i,j,F,hc⟩<;>rcases h' with⟨i',j',hj',hs',hm',rfl,rfl⟩|⟨n2,rfl,rfl⟩|⟨n2,i',j',F',fV⟩
 ·have e:i=i':=by
   rcases Nat.lt_trichotomy i i' with h|h|h
   ·have:=hm' i j h hj;omega
   ·exact h
   ·have:=hm i' j' h hj';omega
  subst e;exact⟨rfl,rfl⟩
 ·exact absurd hj (n2 i j)
 ·have:=n2 i j hj;omega
 ·exact absurd hj' (n1 i' j')
 ·exact⟨rfl,rfl⟩
 ·exact absurd F'.1 (n1 i' j')
 ·have:=n1 i' j' hj';omega
 ·exact absurd F.1 (n2 i j)
 ·obtain⟨rfl,rfl⟩:=F.uniq F';rcases hc with⟨c1,rfl,rfl⟩|⟨⟨c1,c2⟩,rfl,rfl⟩<;>rcases fV with⟨d1,rfl,rfl⟩|⟨⟨d1,d2⟩,rfl,rfl⟩
  ·exact⟨rfl,rfl⟩
  ·rcases c1 with c|c
   ·rw[c] at d1;cases d1
   ·exact absurd c d2
  ·rcases d1 with d|d
   ·rw[d] at c1;cases c1
   ·exact absurd d c2
  ·exact⟨rfl,rfl⟩
section
variable {h h':Heap} {col aC:Nat→Nat} {r m s q J:Nat} {tv gv:AV} {D:List Int} {ws:Ws} {gs:List (Nat×Int)} {T:List Tk} {L:List En} {st:St} {Q:AV→Heap→Prop} {t:Int}
theorem N3(R:RA h col r st)(hQ:∀a s b,Ay st a s b→Q (.cq [.int .i64 a,.int .i64 s,.bool b]) h):VD fs ms 30 [.ptr r 0] h Q:=
 EW R (fun hn=>hQ _ _ _ (.inl ⟨hn,rfl,rfl,rfl⟩)) fun i j hj hs hm=>hQ _ _ _ (.inr ⟨i,j,hj,hs,hm,rfl,rfl,rfl⟩)
theorem Sa(R:RA h col r st)(hL:st.L.length≤900)(hQ:∀a b,He st a b→Q (.cq [.int .i64 a,.bool b]) h):VD fs ms 15 [.ptr r 0] h Q:=
 Ad R hL (fun i j hj hs hm=>hQ _ _ (.inl ⟨i,j,hj,hs,hm,rfl,rfl⟩)) (fun hn=>hQ _ _ (.inr (.inl ⟨hn,rfl,rfl⟩))) (fun hn i j F hc=>hQ _ _ (.inr (.inr ⟨hn,i,j,F,.inl ⟨hc,rfl,rfl⟩⟩)))
  fun hn i j F h1 h2=>hQ _ _ (.inr (.inr ⟨hn,i,j,F,.inr ⟨⟨h1,h2⟩,rfl,rfl⟩⟩))
theorem CC{js:List (Option Jb)}{i:Nat}:gD (dQ js) i=match js[i]? with|some (some j)=>j.e|some none=>-1|none=>0:=by
 rw[gD,List.getD_eq_getElem?_getD,dQ,List.getElem?_map];cases js[i]? with
 |none=>rfl
 |some o=>cases o<;>rfl
theorem si{js:List (Option Jb)}{i:Nat}{j:Jb}(h:js[i]?=some (some j)):gD (dQ js) i=j.e:=by rw[CC,h]
theorem tq(js:List (Option Jb)):(dQ js).length=js.length:=List.length_map ..
theorem zo{js:List (Option Jb)}(he:∀(i:Nat) (j:Jb),js[i]?=some (some j)→0≤j.e){x:Nat}:x∈dj (dQ js) (dQ js).length↔∃j,js[x]?=some (some j):=by
 rw[vD,CC,tq];constructor
 ·rintro⟨h1,h2⟩;rw[List.getElem?_eq_getElem h1] at h2⊢;cases hc:js[x] with
  |none=>rw[hc] at h2;simp at h2
  |some j=>exact⟨j,rfl⟩
 ·rintro⟨j,hj⟩;rw[hj];exact⟨(List.getElem?_eq_some_iff.1 hj).1,he x j hj⟩
theorem Qj{st:St}(he:∀(i:Nat) (j:Jb),st.j[i]?=some (some j)→0≤j.e){x:Nat}{l:List Nat}(hd:dj (dQ st.j) (dQ st.j).length=x::l):∃j,O0 st x j∧gD (dQ st.j) x=j.e:=by
 obtain⟨j,hj⟩:=(zo he).1 (show x∈dj (dQ st.j) (dQ st.j).length by rw[hd];simp);have hg:=si hj;refine⟨j,⟨hj,fun i' j' hj'=>?_⟩,hg⟩;have hs:=CG (dQ st.j) (dQ st.j).length;have hm:=(zo he).2 ⟨j',hj'⟩;rw[hd] at hs hm;rw[List.pairwise_cons] at hs;have hg':=si hj';rw[mG];rcases List.mem_cons.1 hm with rfl|hm
 ·rw[hj] at hj';cases hj'
  exact .inr ⟨rfl,Nat.le_refl _⟩
 ·have:=hs.1 i' hm;unfold rD at this;rw[hg,hg'] at this;simp only;omega
theorem Qk{js:List (Option Jb)}(he:∀(i:Nat) (j:Jb),js[i]?=some (some j)→0≤j.e)(hd:dj (dQ js) (dQ js).length=[]):∀(i:Nat) (j:Jb),js[i]?≠some (some j):=by
 intro i j hj;have:=(zo he).2 ⟨j,hj⟩;rw[hd] at this;simp at this
theorem FZ{js:List (Option Jb)}{M:List Id}(he:∀(i:Nat) (j:Jb),js[i]?=some (some j)→0≤j.e)(hm:∀y:Id,y∈M↔∃j,js[y.1]?=some (some j)∧y.2=j.e)(hd:PO M)(hs:G6 M 0 M.length):FX M=nl (dj (dQ js) (dQ js).length):=by
 have hM:Wl M (dQ js):=by
  refine⟨fun y hy=>?_,fun i hi h0=>?_⟩
  ·obtain⟨j,hj,e⟩:=(hm y).1 hy;rw[tq,si hj,e];exact⟨(List.getElem?_eq_some_iff.1 hj).1,rfl,he _ _ hj⟩
  ·obtain⟨j,hj⟩:=(zo he).1 ((vD _ _ i).2 ⟨hi,h0⟩);exact(hm _).2 ⟨j,hj,si hj⟩
 rw[hM.jobs ⟨rfl,fun _=>Iff.rfl,hd,hs⟩,MU]
theorem JG(R:qz h col m s q J tv gv D ws gs T L){B:Nat}{Q:AX→Env→Heap→Prop}(hQ:(∀(i:Nat) (j:Jb),(wj ws)[i]?=some (some j)→j.s<2)→∀e',Q (.exit 0) e' h)
  (hR:∀(i:Nat) (j:Jb) e',(wj ws)[i]?=some (some j)→2≤j.s→(∀(n:Nat) (j':Jb),n<i→(wj ws)[n]?=some (some j')→j'.s<2)→dr e' [(2,.int .i64 ((i:Nat):Int)),(3,.int .i64 j.s),(4,.bool true)]→Q .ret e' h):
  ∀(k i:Nat) (env:Env),ws.length-i=k→i≤ws.length→(∀(n:Nat) (j:Jb),n<i→(wj ws)[n]?=some (some j)→j.s<2)→dr env [(0,.ptr m 0),(5,.int .i64 ((i:Nat):Int))]→VC fs ms B false (.loop fC) env h Q:=by
 have h4:ws.length≤4:=by rw[R.tl];exact R.n4
 intro k;induction k with
 |zero=>
  intro i env hk hi hno dF;have he:i=ws.length:=by omega
  refine aH 5 _ dF ?_;refine cS (aq (z:=true) ?_);conv=>whnf
  repeat(first|(refine⟨_,aT R.dB.get rfl,?_⟩;conv=>whnf))
  refine nE (by simp;omega) (fun hc=>?_)
  (try rw[hc])
  conv=>whnf
  exact hQ (fun n j hj=>hno n j (by have:=(List.getElem?_eq_some_iff.1 hj).1;rw[wj,List.length_map] at this;omega) hj) _
 |succ k ih=>
  intro i env hk hi hno dF;have hlt:i<ws.length:=by omega
  have hw:ws[i]?=some ws[i]:=List.getElem?_eq_getElem hlt;refine aH 5 _ dF ?_;refine cS (aF true ?_);conv=>whnf
  repeat(first|(refine⟨_,aT R.dB.get rfl,?_⟩;conv=>whnf))
  refine qt (by simp;omega) (fun hc=>?_)
  (try rw[hc])
  conv=>whnf
  refine bu (bx (aF true ?_));conv=>whnf
  cases TS:ws[i] with
  |none=>
   rw[TS] at hw;have hg:((ws.map (Option.map Prod.fst)).map xF)[i*1]?=some (xF none):=by rw[Nat.mul_one,List.getElem?_map,List.getElem?_map,hw];rfl
   repeat(first|(refine⟨_,aT R.dB.get rfl,?_⟩;conv=>whnf)|(refine⟨_,aJ hlt,?_⟩;conv=>whnf)|(refine⟨_,aT R.kr.get hg,?_⟩;conv=>whnf))
   refine aq (z:=true) ?_;conv=>whnf
   refine aq (z:=true) ?_;conv=>whnf
   refine ih (i+1) _ (by omega) (by omega) (fun n j hn hj=>?_) ⟨rfl,aK (by omega),trivial⟩;by_cases e:n=i
   ·subst e;rw[sW hw] at hj;cases hj
   ·exact hno n j (by omega) hj
  |some w=>
   rw[TS] at hw;obtain⟨p,C,o,v,JJ,_⟩:=R.mP i _ hw;repeat(first|(refine⟨_,aT R.dB.get rfl,?_⟩;conv=>whnf)|(refine⟨_,aJ hlt,?_⟩;conv=>whnf)|(refine⟨_,aT R.kr.get (fN hw),?_⟩;conv=>whnf)|(refine⟨_,aT JJ.st rfl,?_⟩;conv=>whnf))
   refine gW ?_;conv=>whnf
   refine br (fun hc=>?_) (fun hc=>?_)<;>(try rw[hc])<;>(conv=>whnf)
   ·refine aq (z:=true) ?_;conv=>whnf
    repeat(first|(refine⟨_,aT R.dB.get rfl,?_⟩;conv=>whnf)|(refine⟨_,aJ hlt,?_⟩;conv=>whnf)|(refine⟨_,aT R.kr.get (fN hw),?_⟩;conv=>whnf)|(refine⟨_,aT JJ.st rfl,?_⟩;conv=>whnf))
    exact hR i w.2 _ (dn hw) (of_decide_eq_true hc) hno ⟨rfl,rfl,rfl,trivial⟩
   ·have hsl:=of_decide_eq_false hc;refine aq (z:=true) ?_;conv=>whnf
    refine aq (z:=true) ?_;conv=>whnf
    refine ih (i+1) _ (by omega) (by omega) (fun n j hn hj=>?_) ⟨rfl,aK (by omega),trivial⟩;by_cases e:n=i
    ·subst e;rw[dn hw] at hj;cases hj
     show w.2.s<2;omega
    ·exact hno n j (by omega) hj
theorem BU(R:RC h col m st)(hQ:∀a s b,Ay st a s b→Q (.cq [.int .i64 a,.int .i64 s,.bool b]) h):VD fs ms 59 [.ptr m 0] h Q:=by
 obtain⟨s,q,J,tv,gv,ws,gs,R,e1,e2,e4⟩:=R;refine bY (af:=VH) rfl (Nat.le_of_ble_eq_true rfl) ?_;conv=>whnf
 refine aF true ?_;conv=>whnf
 refine bu (aF true ?_);conv=>whnf
 refine bx ?_;refine JG R (fun hn e'=>?_) (fun i j e' hj hs hm he=>?_) ws.length 0 _ rfl (Nat.zero_le _) (fun n j hn=>by omega) ⟨rfl,rfl,trivial⟩
 ·show VC fs ms _ false _ _ _ _;refine aH 0 [] trivial (aq (z:=true) ?_);conv=>whnf
  rw[←e1] at hn;exact hQ _ _ _ (.inl ⟨hn,rfl,rfl,rfl⟩)
 ·rw[←e1] at hj hm;exact vF he.1 he.2.1 he.2.2.1 (hQ _ _ _ (.inr ⟨i,j,hj,hs,hm,rfl,rfl,rfl⟩))
theorem EM(R:RC h col m st)(hL:st.L.length≤900)(hQ:∀h' a b,He st a b→Fr h h' []→Q (.cq [.int .i64 a,.bool b]) h'):VD fs ms 17 [.ptr m 0] h Q:=by
 have R0:=R;obtain⟨s,q,J,tv,gv,ws,gs,R,e1,e2,e4⟩:=R;have n4:=R.n4;have he:∀(i:Nat) (j:Jb),st.j[i]?=some (some j)→0≤j.e:=fun i j hj=>(e4 i j hj).2;refine ak (af:=U4) true rfl (Nat.le_of_ble_eq_true rfl) ?_;conv=>whnf
 refine BU R0 fun a sx b hS=>?_;conv=>whnf
 rcases hS with⟨hn,rfl,rfl,rfl⟩|⟨i,j,hj,hs,hm,rfl,rfl,rfl⟩
 rotate_left
 ·conv=>whnf
  exact hQ h _ _ (.inl ⟨i,j,hj,hs,hm,rfl,rfl⟩) (Fr.refl _ _)
 conv=>whnf
 repeat(first|(refine⟨_,aT R.dB.get rfl,?_⟩;conv=>whnf))
 obtain⟨qb,es,op,M,_⟩:=R.z5;refine Jc M (by rw[tq,e1,wj,List.length_map,R.tl];exact n4) (fun h1 hd fr=>?_) (fun h1 x l hd fr=>?_)
 ·conv=>whnf
  exact hQ h1 _ _ (.inr (.inl ⟨Qk he hd,rfl,rfl⟩)) fr
 obtain⟨j,F,hg⟩:=Qj he hd;have R1:=R.nil fr;obtain⟨b,hw⟩:=Ar (by rw[←e1];exact F.1);obtain⟨p,C,o,v,JJ,_⟩:=R1.mP x _ hw;obtain⟨WH,v2,S,_⟩:=R1.stk;obtain⟨kT,hf⟩:=R1.An.1.SH;conv=>whnf
 repeat(first|(refine⟨_,aT R1.dB.get rfl,?_⟩;conv=>whnf)|(refine⟨_,aJ (List.getElem?_eq_some_iff.1 hw).1,?_⟩;conv=>whnf)|(refine⟨_,aT R1.kr.get (fN hw),?_⟩;conv=>whnf)|(refine⟨_,aT JJ.st rfl,?_⟩;conv=>whnf))
 refine br (fun hc=>?_) (fun hc=>?_)<;>(try rw[hc])<;>(conv=>whnf)
 ·refine⟨iO (by(conv=>whnf);repeat' (first|exact trivial|(exact⟨rfl,rfl,.inr ⟨_,_,rfl⟩⟩)|(refine⟨rfl,rfl,.inl ⟨rfl,fun o ho=>?_⟩⟩;cases ho;first|rfl)|(exact⟨rfl,.inr ⟨_,_,rfl⟩⟩)|(refine⟨rfl,.inl ⟨rfl,fun i o hi ho=>?_⟩⟩;cases hi;cases ho;first|rfl)|(refine And.intro (fun eM=>(Bool.false_ne_true eM).elim) ?_<;>conv=>whnf)|(refine And.intro (fun _=>?_) ?_<;>conv=>whnf)|(refine And.intro ?_ ?_<;>conv=>whnf))),?_⟩;conv=>whnf
  exact hQ h1 _ _ (.inr (.inr ⟨hn,x,j,F,.inl ⟨.inl hc,rfl,rfl⟩⟩)) fr
 have hgf:j.g=false:=hc;repeat(first|(refine⟨_,aT R1.dB.get rfl,?_⟩;conv=>whnf))
 refine fQ (BY kT st.T (by omega) x) rfl (.cons hf (.cons (.clean rfl) .nil)) ?_;conv=>whnf
 repeat(first|(refine⟨_,aT R1.dB.get rfl,?_⟩;conv=>whnf))
 refine JW S (by omega) (by omega) ?_;conv=>whnf
 refine⟨iO (by(conv=>whnf);repeat' (first|exact trivial|exact aT R1.dB.get rfl|(exact⟨rfl,rfl,.inr ⟨_,_,rfl⟩⟩)|(refine⟨rfl,rfl,.inl ⟨rfl,fun o ho=>?_⟩⟩;cases ho;first|rfl|exact aT R1.dB.get rfl)|(exact⟨rfl,.inr ⟨_,_,rfl⟩⟩)|(refine⟨rfl,.inl ⟨rfl,fun i o hi ho=>?_⟩⟩;cases hi;cases ho;first|rfl|exact aT R1.dB.get rfl)|(refine And.intro (fun eM=>(Bool.false_ne_true eM).elim) ?_<;>conv=>whnf)|(refine And.intro (fun _=>?_) ?_<;>conv=>whnf)|(refine And.intro ?_ ?_<;>conv=>whnf))),?_⟩;conv=>whnf
 refine br (fun hc=>?_) (fun hc=>?_)<;>(try rw[hc])<;>(conv=>whnf)
 ·exact hQ h1 _ _ (.inr (.inr ⟨hn,x,j,F,.inl ⟨.inr (of_decide_eq_true hc),rfl,rfl⟩⟩)) fr
 have hle:¬lvl st.T x>iA st.T st.L:=of_decide_eq_false hc;repeat(first|(refine⟨_,aT R1.dB.get rfl,?_⟩;conv=>whnf))
 refine OC S (by omega) ?_;conv=>whnf
 exact hQ h1 _ _ (.inr (.inr ⟨hn,x,j,F,.inr ⟨⟨hgf,hle⟩,rfl,rfl⟩⟩)) fr
end
section
variable {h h':Heap} {col aC:Nat→Nat} {m s q J:Nat} {tv gv:AV} {D:List Int} {ws:Ws} {gs:List (Nat×Int)} {T:List Tk} {L:List En} {st:St} {Q:AV→Heap→Prop} {t:Int}
theorem wg{i b p C o o':Nat}{v v':AV}{j j':Jb}{bs:List Nat}(R:qz h col m s q J tv gv (dQ st.j) ws gs st.T st.L)(e1:st.j=wj ws)(e2:st.g=gs.map Prod.snd)(e4:∀(i:Nat) (j:Jb),st.j[i]?=some (some j)→j.l.length≤32∧0≤j.e)(hw:ws[i]?=some (some (b,j)))
  (JJ:JR h b p C o v j)(hC:C<h.next)(c1:col b=10+i)(c2:col p=10+i)(c3:col C=10+i)(za:JR h' b p C o' v' j')(fr:Fr h h' bs)(hb:∀c∈bs,c=b∨c=p∨c=C)(he:j'.e=j.e)(hl:j'.l.length≤j.l.length):
  RC h' (b8 col h.next (10+i)) m {st with j:=st.j.set i (some j')}∧Kc h h' col (b8 col h.next (10+i)) RK:=by
 have f:Kc h h' col (b8 col h.next (10+i)) (· =10+i):=Kc.of fr (by intro c hc _;rcases hb c hc with rfl|rfl|rfl<;>assumption);have hp:=JJ.rw.lt;have TL:=JJ.lt;exact⟨RC.we R e1 e2 e4 hw f ⟨p,C,o',v',za,Nat.lt_of_lt_of_le hC f.next,by rw[f.col b TL,c1],by rw[f.col p hp,c2],by rw[f.col C hC,c3]⟩ he hl,f.wk fun n hn=>by subst hn;exact Ff i (R.len hw)⟩
theorem EL(R:RC h col m st)(hQ:∀h' aC,RC h' aC m (sJ st t OF).2→Kc h h' col aC RK→Q (.int .i64 (sJ st t OF).1) h'):VD fs ms 66 [.ptr m 0,.int .i64 t] h Q:=by
 have R0:=R;obtain⟨s,q,J,tv,gv,ws,gs,R,e1,e2,e4⟩:=R;refine ak (af:=VN) true rfl (Nat.le_of_ble_eq_true rfl) ?_;conv=>whnf
 refine oz R ?_;rw[←e1];conv=>whnf
 refine br (fun hc=>?_) (fun hc=>?_)<;>(try rw[hc])<;>(conv=>whnf)
 ·rw[mM (by simpa using hc)] at hQ;exact hQ h col R0 (Kc.refl _ _ _)
 obtain⟨i,b,j,rfl,hi,hw,hj⟩:=kG R.tl e1 (by simpa using hc);obtain⟨p,C,o,v,JJ,hC,c1,c2,c3⟩:=R.mP i _ hw;repeat(first|(refine⟨_,aT R.dB.get rfl,?_⟩;conv=>whnf)|(refine⟨_,aJ (List.getElem?_eq_some_iff.1 hw).1,?_⟩;conv=>whnf)|(refine⟨_,aT R.kr.get (fN hw),?_⟩;conv=>whnf))
 rw[mL hi hj] at hQ;refine Oo JJ fun h' v' o' za fr=>?_;conv=>whnf
 obtain⟨R',f⟩:=wg R e1 e2 e4 hw JJ hC c1 c2 c3 za fr (by simp) (HK j) (Ew j);exact hQ h' _ R' f
theorem N7(R:RC h col m st)(hQ:∀h' aC,RC h' aC m (sJ st t MT).2→Kc h h' col aC RK→Q (.int .i64 (sJ st t MT).1) h'):VD fs ms 65 [.ptr m 0,.int .i64 t] h Q:=by
 have R0:=R;obtain⟨s,q,J,tv,gv,ws,gs,R,e1,e2,e4⟩:=R;refine ak (af:=VM) true rfl (Nat.le_of_ble_eq_true rfl) ?_;conv=>whnf
 refine oz R ?_;rw[←e1];conv=>whnf
 refine br (fun hc=>?_) (fun hc=>?_)<;>(try rw[hc])<;>(conv=>whnf)
 ·rw[mM (by simpa using hc)] at hQ;exact hQ h col R0 (Kc.refl _ _ _)
 obtain⟨i,b,j,rfl,hi,hw,hj⟩:=kG R.tl e1 (by simpa using hc);obtain⟨p,C,o,v,JJ,hC,c1,c2,c3⟩:=R.mP i _ hw;repeat(first|(refine⟨_,aT R.dB.get rfl,?_⟩;conv=>whnf)|(refine⟨_,aJ (List.getElem?_eq_some_iff.1 hw).1,?_⟩;conv=>whnf)|(refine⟨_,aT R.kr.get (fN hw),?_⟩;conv=>whnf))
 rw[mL hi hj] at hQ;refine Ol JJ fun h' v' o' za fr=>?_;conv=>whnf
 obtain⟨R',f⟩:=wg R e1 e2 e4 hw JJ hC c1 c2 c3 za fr (by simp) rfl (Eu j.l);exact hQ h' _ R' f
theorem JC(R:RC h col m st)(hQ:∀h' aC,RC h' aC m (sJ st t um).2→Kc h h' col aC RK→Q (.int .i64 (sJ st t um).1) h'):VD fs ms 70 [.ptr m 0,.int .i64 t] h Q:=by
 have R0:=R;obtain⟨s,q,J,tv,gv,ws,gs,R,e1,e2,e4⟩:=R;refine ak (af:=VT) true rfl (Nat.le_of_ble_eq_true rfl) ?_;conv=>whnf
 refine oz R ?_;rw[←e1];conv=>whnf
 refine br (fun hc=>?_) (fun hc=>?_)<;>(try rw[hc])<;>(conv=>whnf)
 ·rw[mM (by simpa using hc)] at hQ;exact hQ h col R0 (Kc.refl _ _ _)
 obtain⟨i,b,j,rfl,hi,hw,hj⟩:=kG R.tl e1 (by simpa using hc);obtain⟨p,C,o,v,JJ,hC,c1,c2,c3⟩:=R.mP i _ hw;repeat(first|(refine⟨_,aT R.dB.get rfl,?_⟩;conv=>whnf)|(refine⟨_,aJ (List.getElem?_eq_some_iff.1 hw).1,?_⟩;conv=>whnf)|(refine⟨_,aT R.kr.get (fN hw),?_⟩;conv=>whnf)|(refine⟨_,aT JJ.st rfl,?_⟩;conv=>whnf))
 rw[mL hi hj] at hQ;refine br (fun hc=>?_) (fun hc=>?_)<;>(try rw[hc])<;>(conv=>whnf)
 ·have hs:j.s≠3:=by simpa using hc
  rw[um,if_pos hs,mD hj] at hQ;exact hQ h col R0 (Kc.refl _ _ _)
 have hs:¬j.s≠3:=by simpa using hc
 rw[um,if_neg hs] at hQ;repeat(first|(refine⟨_,aT R.dB.get rfl,?_⟩;conv=>whnf)|(refine⟨_,aJ (List.getElem?_eq_some_iff.1 hw).1,?_⟩;conv=>whnf)|(refine⟨_,aT R.kr.get (fN hw),?_⟩;conv=>whnf))
 refine z9 JJ fun h' za fr=>?_;conv=>whnf
 obtain⟨R',f⟩:=wg R e1 e2 e4 hw JJ hC c1 c2 c3 za fr (by simp) (pW j 2).1 (by rw[(pW j 2).2];exact Nat.le_refl _);exact hQ h' _ R' f
theorem Jz(R:RC h col m st)(hQ:∀h' aC,RC h' aC m (sJ st t uj).2→Kc h h' col aC RK→Q (.int .i64 (sJ st t uj).1) h'):VD fs ms 71 [.ptr m 0,.int .i64 t] h Q:=by
 have R0:=R;obtain⟨s,q,J,tv,gv,ws,gs,R,e1,e2,e4⟩:=R;refine ak (af:=VU) true rfl (Nat.le_of_ble_eq_true rfl) ?_;conv=>whnf
 refine oz R ?_;rw[←e1];conv=>whnf
 refine br (fun hc=>?_) (fun hc=>?_)<;>(try rw[hc])<;>(conv=>whnf)
 ·rw[mM (by simpa using hc)] at hQ;exact hQ h col R0 (Kc.refl _ _ _)
 obtain⟨i,b,j,rfl,hi,hw,hj⟩:=kG R.tl e1 (by simpa using hc);obtain⟨p,C,o,v,JJ,hC,c1,c2,c3⟩:=R.mP i _ hw;repeat(first|(refine⟨_,aT R.dB.get rfl,?_⟩;conv=>whnf)|(refine⟨_,aJ (List.getElem?_eq_some_iff.1 hw).1,?_⟩;conv=>whnf)|(refine⟨_,aT R.kr.get (fN hw),?_⟩;conv=>whnf)|(refine⟨_,aT JJ.st rfl,?_⟩;conv=>whnf))
 rw[mL hi hj] at hQ;refine br (fun hc=>?_) (fun hc=>?_)<;>(try rw[hc])<;>(conv=>whnf)
 ·have hs:j.s≠2:=by simpa using hc
  rw[uj,if_pos hs,mD hj] at hQ;exact hQ h col R0 (Kc.refl _ _ _)
 have hs:¬j.s≠2:=by simpa using hc
 rw[uj,if_neg hs] at hQ;repeat(first|(refine⟨_,aT R.dB.get rfl,?_⟩;conv=>whnf)|(refine⟨_,aJ (List.getElem?_eq_some_iff.1 hw).1,?_⟩;conv=>whnf)|(refine⟨_,aT R.kr.get (fN hw),?_⟩;conv=>whnf))
 refine EP JJ fun h' za fr=>?_;conv=>whnf
 obtain⟨R',f⟩:=wg R e1 e2 e4 hw JJ hC c1 c2 c3 za fr (by simp) (v9 j).1 (by rw[(v9 j).2];exact Nat.le_refl _);exact hQ h' _ R' f
theorem N6(R:RC h col m st)(hQ:∀h' aC,RC h' aC m (sJ st t (uI (gT st t))).2→Kc h h' col aC RK→Q (.int .i64 (sJ st t (uI (gT st t))).1) h'):VD fs ms 69 [.ptr m 0,.int .i64 t] h Q:=by
 have R0:=R;obtain⟨s,q,J,tv,gv,ws,gs,R,e1,e2,e4⟩:=R;refine ak (af:=VR) true rfl (Nat.le_of_ble_eq_true rfl) ?_;conv=>whnf
 refine oz R ?_;rw[←e1];conv=>whnf
 refine br (fun hc=>?_) (fun hc=>?_)<;>(try rw[hc])<;>(conv=>whnf)
 ·rw[mM (by simpa using hc)] at hQ;exact hQ h col R0 (Kc.refl _ _ _)
 obtain⟨i,b,j,rfl,hi,hw,hj⟩:=kG R.tl e1 (by simpa using hc);obtain⟨p,C,o,v,JJ,hC,c1,c2,c3⟩:=R.mP i _ hw;have hgt:gT st i=st.T[i].c:=by rw[gT,Int.toNat_natCast,List.getElem?_eq_getElem hi]
 rw[mL hi hj,hgt] at hQ;obtain⟨tb,s6,oB,_⟩:=R.An.1.at hi;have hl5:=oB 5 (.int .i64 st.T[i].c) rfl;repeat(first|(refine⟨_,aT R.dB.get rfl,?_⟩;conv=>whnf)|(refine⟨_,s6,?_⟩;conv=>whnf)|(refine⟨_,hl5,?_⟩;conv=>whnf))
 refine br (fun hc=>?_) (fun hc=>?_)<;>(try rw[hc])<;>(conv=>whnf)
 ·have hs:st.T[i].c=0:=by simpa using hc
  rw[uI,if_pos hs,mD hj] at hQ;exact hQ h col R0 (Kc.refl _ _ _)
 have hs:¬st.T[i].c=0:=by simpa using hc
 rw[uI,if_neg hs] at hQ;repeat(first|(refine⟨_,aT R.dB.get rfl,?_⟩;conv=>whnf)|(refine⟨_,aJ (List.getElem?_eq_some_iff.1 hw).1,?_⟩;conv=>whnf)|(refine⟨_,aT R.kr.get (fN hw),?_⟩;conv=>whnf)|(refine⟨_,aT JJ.st rfl,?_⟩;conv=>whnf))
 refine br (fun hc=>?_) (fun hc=>?_)<;>(try rw[hc])<;>(conv=>whnf)
 ·have h3:j.s=3:=by simpa using hc
  rw[if_pos h3,mD hj] at hQ;exact hQ h col R0 (Kc.refl _ _ _)
 have h3:¬j.s=3:=by simpa using hc
 rw[if_neg h3] at hQ;repeat(first|(refine⟨_,aT R.dB.get rfl,?_⟩;conv=>whnf)|(refine⟨_,aJ (List.getElem?_eq_some_iff.1 hw).1,?_⟩;conv=>whnf)|(refine⟨_,aT R.kr.get (fN hw),?_⟩;conv=>whnf))
 refine z9 JJ fun h' za fr=>?_;conv=>whnf
 obtain⟨R',f⟩:=wg R e1 e2 e4 hw JJ hC c1 c2 c3 za fr (by simp) (pW j 3).1 (by rw[(pW j 3).2];exact Nat.le_refl _);exact hQ h' _ R' f
end
section
variable {h h':Heap} {col aC:Nat→Nat} {m s q J:Nat} {tv gv:AV} {D:List Int} {ws:Ws} {gs:List (Nat×Int)} {T:List Tk} {L:List En} {st:St} {Q:AV→Heap→Prop} {t:Int}
theorem Ak{v v':AV}{L':List En}{bs:List Nat}(S:qB h s tv v T L)(c1:col s=2)(c2:∀d,d∈dN tv→col d=2)(c3:∀d,d∈dN v→col d=2)(S':qB h' s tv v' T L')(fr:Fr h h' bs)(hb:∀c,c∈bs→c=s∨c∈dN v)(hv:∀d,d∈dN v'→d∈dN v∨h.next≤d):
  Kc h h' col (b8 col h.next 2) (· =2)∧Cr h' (b8 col h.next 2) s T L':=by
 refine⟨Kc.of fr fun c hc _=>?_,tv,v',S',by rw[bO S.lt,c1],fun d hd=>by rw[bO (S.tr.lt d hd).1,c2 d hd],fun d hd=>?_⟩
 ·rcases hb c hc with rfl|h
  ·exact c1
  ·exact c3 c h
 ·rcases hv d hd with h|h
  ·rw[bO (GR.Gg S.en h).2.1,c3 d h]
  ·exact cA h
theorem qz.SZ{i:Nat}{w:Option (Nat×Jb)}(R:qz h col m s q J tv gv D ws gs T L)(hi:i<ws.length)(f:Kc h h' col aC (· =4))(hg:h'.get J=some (.cells (Heap.splice ((ws.map (Option.map Prod.fst)).map xF) (i*1) [UU w]) true 0))
  (hw:∀x,w=some x→O3 h' aC i x.1 x.2):qz h' aC m s q J tv gv D (ws.set i w) gs T L:=by
 refine⟨R.n4,by rw[List.length_set];exact R.tl,R.gl,?_,R.An.keep f (by decide),R.stk.keep f (by decide),R.z5.keep f (by decide),⟨Nat.lt_of_lt_of_le R.kr.lt f.next,(f.col J R.kr.lt).trans R.kr.co,?_⟩,fun n x hn=>?_,R.uL.keep f (by decide) (by intro i _;omega)⟩
 ·rw[List.length_set];exact R.dB.keep f (by decide)
 ·rw[Cf hi] at hg;exact hg
 ·rw[List.getElem?_set] at hn;by_cases e:i=n
  ·subst e;rw[if_pos rfl,if_pos hi] at hn;exact hw x (Option.some.inj hn)
  ·rw[if_neg e] at hn;exact(R.mP n x hn).keep f (by omega)
theorem qz.Qy{i:Nat}{g:Nat×Int}{tk:Tk}{n:Int}(R:qz h col m s q J tv gv D ws gs T L)(hg:gs[i]?=some g)(ht:T[i]?=some tk)(f:Kc h h' col aC (· =20+i))(hb:h'.get g.1=some (gB tk.p n)):qz h' aC m s q J tv gv D ws (gs.set i (g.1,n)) T L:=by
 obtain⟨b1,b2,b3,b4⟩:=R.uL.all i g tk hg ht;have hi:=(List.getElem?_eq_some_iff.1 hg).1;have Nh:=R.n4;have su:=R.gl;have em:(gs.set i (g.1,n)).map (fun g=>AV.ptr g.1 0)=gs.map fun g=>AV.ptr g.1 0:=by
  rw[List.map_set];exact dc (by rw[List.getElem?_map,hg];rfl)
 refine⟨R.n4,R.tl,by rw[List.length_set];exact R.gl,R.dB.keep f (by omega),R.An.keep f (by omega),R.stk.keep f (by omega),R.z5.keep f (by omega),R.kr.keep f (by omega),fun n w hw=>(R.mP n w hw).keep f (by have:=R.len hw;omega),?_,fun m g' t' hm ht'=>?_⟩
 ·rcases R.uL.row with h|⟨G,op,es,a1,a2,a3,a4⟩
  ·left;rw[h];rfl
  ·right;rw[List.length_set,em];exact⟨G,op,es,a1,Nat.lt_of_lt_of_le a2 f.next,(f.col G a2).trans a3,(f.keep G a2 (by rw[a3];omega)).trans a4⟩
 ·rw[List.getElem?_set] at hm;by_cases e:i=m
  ·subst e;rw[if_pos rfl,if_pos hi] at hm;cases hm
   rw[ht] at ht';cases ht'
   exact⟨b1,Nat.lt_of_lt_of_le b2 f.next,(f.col _ b2).trans b3,hb⟩
  ·rw[if_neg e] at hm;obtain⟨a1,a2,a3,a4⟩:=R.uL.all m g' t' hm ht';exact⟨a1,Nat.lt_of_lt_of_le a2 f.next,(f.col _ a2).trans a3,(f.keep _ a2 (by rw[a3];omega)).trans a4⟩
theorem ZU:RK 2:=⟨by decide,by decide⟩
theorem JD{x:Int}(R:RC h col m st)(hL:st.L.length≤900)(hH:(bz st.L t).length≤4)(hQ:∀h' aC,RC h' aC m (qN st t x).2→Kc h h' col aC RK→Q (.int .i64 (qN st t x).1) h'):VD fs ms 67 [.ptr m 0,.int .i64 t,.int .i64 x] h Q:=by
 have R0:=R;obtain⟨s,q,J,tv,gv,ws,gs,R,e1,e2,e4⟩:=R;have n4:=R.n4;refine ak (af:=VP) true rfl (Nat.le_of_ble_eq_true rfl) ?_;conv=>whnf
 refine oz R ?_;rw[←e1];conv=>whnf
 refine br (fun hc=>?_) (fun hc=>?_)<;>(try rw[hc])<;>(conv=>whnf)
 ·rw[qN,if_pos (by simpa using hc)] at hQ;exact hQ h col R0 (Kc.refl _ _ _)
 have ho:lY st.T st.j t=0:=by simpa using hc
 rw[qN,if_neg (by simpa using ho)] at hQ;obtain⟨i,b,j,rfl,hi,hw,hj⟩:=kG R.tl e1 ho;rw[Int.toNat_natCast,hj] at hQ;simp only at hQ;obtain⟨p,C,o,v,JJ,hC,c1,c2,c3⟩:=R.mP i _ hw;repeat(first|(refine⟨_,aT R.dB.get rfl,?_⟩;conv=>whnf)|(refine⟨_,aJ (List.getElem?_eq_some_iff.1 hw).1,?_⟩;conv=>whnf)|(refine⟨_,aT R.kr.get (fN hw),?_⟩;conv=>whnf)|(refine⟨_,aT JJ.st rfl,?_⟩;conv=>whnf))
 refine br (fun hc=>?_) (fun hc=>?_)<;>(try rw[hc])<;>(conv=>whnf)
 ·rw[if_pos (of_decide_eq_true hc)] at hQ;exact hQ h col R0 (Kc.refl _ _ _)
 rw[if_neg (of_decide_eq_false hc)] at hQ;obtain⟨WH,v2,S,d1,d2,d3⟩:=R.stk;repeat(first|(refine⟨_,aT R.dB.get rfl,?_⟩;conv=>whnf))
 refine J6 S (by omega) hL hH (fun hl h1 fr=>?_) (fun hl h1 v' S' fr rT=>?_)
 ·rw[if_pos hl] at hQ;conv=>whnf
  refine nE ((by simpa using hl)) (fun hc=>?_)
  (try rw[hc])
  conv=>whnf
  exact hQ h1 col (R0.nil fr) (Kc.same fr)
 rw[if_neg (by simpa using hl)] at hQ;obtain⟨f2,S2⟩:=Ak S d1 d2 d3 S' fr (by simp) (fun d hd=>.inr (rT d hd));have R2:=R.DA f2 S2;have f3:=f2.wk (K':=RK) fun n hn=>by subst hn;exact ZU
 generalize b8 col h.next 2=colA at*;obtain⟨p,C,o,v,JJ,hC,c1,c2,c3⟩:=R2.mP i _ hw;conv=>whnf
 repeat(first|(refine⟨_,aT R2.dB.get rfl,?_⟩;conv=>whnf)|(refine⟨_,aJ (List.getElem?_eq_some_iff.1 hw).1,?_⟩;conv=>whnf)|(refine⟨_,aT R2.kr.get (fN hw),?_⟩;conv=>whnf)|(refine⟨_,aT JJ.st rfl,?_⟩;conv=>whnf))
 refine br (fun hc=>?_) (fun hc=>?_)<;>(try rw[hc])<;>(conv=>whnf)
 ·obtain⟨q1,q2⟩:=Em (j:=j) (eq_of_beq hc);repeat(first|(refine⟨_,aT R2.dB.get rfl,?_⟩;conv=>whnf)|(refine⟨_,aJ (List.getElem?_eq_some_iff.1 hw).1,?_⟩;conv=>whnf)|(refine⟨_,aT R2.kr.get (fN hw),?_⟩;conv=>whnf))
  refine z9 JJ fun h4 za jL=>?_;conv=>whnf
  have Tf:JR h4 b p C o v (yE j):=by rw[←q2];exact za
  obtain⟨R',f⟩:=wg (st:={st with L:=st.L++[((i:Int),x)]}) R2 e1 e2 e4 hw JJ hC c1 c2 c3 Tf jL (by simp) (by rw[yE];split<;>rfl) (by rw[yE];split<;>exact Nat.le_refl _);exact hQ h4 _ R' (f3.trans f)
 ·have e:yE j=j:=by rw[yE];exact if_neg (by rw[hc];simp)
  rw[e] at hQ;refine hQ h1 colA ⟨s,q,J,tv,gv,ws,gs,?_,?_,e2,?_⟩ f3
  ·show qz h1 colA m s q J tv gv (dQ (st.j.set i (some j))) ws gs st.T (st.L++[((i:Int),x)]);rw[dc hj];exact R2
  ·show st.j.set i (some j)=_;rw[dc hj];exact e1
  ·show∀(n:Nat) (j':Jb),(st.j.set i (some j))[n]?=some (some j')→_;rw[dc hj];exact e4
theorem Ob(R:RC h col m st)(hL:st.L.length≤900)(hQ:∀h' aC,RC h' aC m (xN st t).2→Kc h h' col aC RK→Q (.int .i64 (xN st t).1) h'):VD fs ms 68 [.ptr m 0,.int .i64 t] h Q:=by
 have R0:=R;obtain⟨s,q,J,tv,gv,ws,gs,R,e1,e2,e4⟩:=R;refine ak (af:=VQ) true rfl (Nat.le_of_ble_eq_true rfl) ?_;conv=>whnf
 refine oz R ?_;rw[←e1];conv=>whnf
 refine br (fun hc=>?_) (fun hc=>?_)<;>(try rw[hc])<;>(conv=>whnf)
 ·rw[xN,if_pos (by simpa using hc)] at hQ;exact hQ h col R0 (Kc.refl _ _ _)
 have ho:lY st.T st.j t=0:=by simpa using hc
 rw[xN,if_neg (by simpa using ho)] at hQ;obtain⟨i,b,j,rfl,hi,hw,hj⟩:=kG R.tl e1 ho;rw[Int.toNat_natCast,hj] at hQ;simp only at hQ;obtain⟨WH,v2,S,d1,d2,d3⟩:=R.stk;repeat(first|(refine⟨_,aT R.dB.get rfl,?_⟩;conv=>whnf))
 refine EX S hL (fun hu=>?_) (fun hu n hn hla h1 v' S' fr rT=>?_)
 ·rw[if_pos hu] at hQ;conv=>whnf
  refine nE ((by simpa using hu)) (fun hc=>?_)
  (try rw[hc])
  conv=>whnf
  exact hQ h col R0 (Kc.refl _ _ _)
 rw[if_neg (by simpa using hu),hla,Int.toNat_natCast] at hQ;obtain⟨f2,S2⟩:=Ak S d1 d2 d3 S' fr (by simp) (fun d hd=>.inr (rT d hd));have R2:=R.DA f2 S2;have f3:=f2.wk (K':=RK) fun n hn=>by subst hn;exact ZU
 generalize b8 col h.next 2=colA at*;have hL':(st.L.eraseIdx n).length≤1000:=by rw[List.length_eraseIdx];split<;>omega
 generalize st.L.eraseIdx n=L' at*;conv=>whnf
 repeat(first|(refine⟨_,aT R2.dB.get rfl,?_⟩;conv=>whnf))
 refine nj S' hL' fun h4 w gr jL=>?_;conv=>whnf
 rw[GR.len gr,bI];conv=>whnf
 have R4:=R2.nil jL;have f5:Kc h h4 col colA RK:=f3.trans (Kc.same jL);obtain⟨p,C,o,v,JJ,hC,c1,c2,c3⟩:=R4.mP i _ hw;by_cases hz:bz L' (i:Int)=[]
 ·have e:uQ L' i j=sC j:=by rw[uQ,hz];rfl
  rw[e] at hQ;refine qt (by simp[hz]) (fun hc=>?_)
  (try rw[hc])
  conv=>whnf
  repeat(first|(refine⟨_,aT R4.dB.get rfl,?_⟩;conv=>whnf)|(refine⟨_,aJ (List.getElem?_eq_some_iff.1 hw).1,?_⟩;conv=>whnf)|(refine⟨_,aT R4.kr.get (fN hw),?_⟩;conv=>whnf))
  refine EP JJ fun h6 za CN=>?_;conv=>whnf
  obtain⟨R',f⟩:=wg (st:={st with L:=L'}) R4 e1 e2 e4 hw JJ hC c1 c2 c3 za CN (by simp) (v9 j).1 (by rw[(v9 j).2];exact Nat.le_refl _);exact hQ h6 _ R' (f5.trans f)
 ·have e:uQ L' i j=j:=by
   rw[uQ,if_neg];cases hh:bz L' i with
   |nil=>exact absurd hh hz
   |cons x l=>simp
  have hlz:¬(bz L' (i:Int)).length=0:=fun h=>hz (List.eq_nil_of_length_eq_zero h);rw[e] at hQ;refine nE (by simpa using hz) (fun hc=>?_)
  (try rw[hc])
  conv=>whnf
  refine hQ h4 colA ⟨s,q,J,tv,gv,ws,gs,?_,?_,e2,?_⟩ f5
  ·show qz h4 colA m s q J tv gv (dQ (st.j.set i (some j))) ws gs st.T L';rw[dc hj];exact R4
  ·show st.j.set i (some j)=_;rw[dc hj];exact e1
  ·show∀(n:Nat) (j':Jb),(st.j.set i (some j))[n]?=some (some j')→_;rw[dc hj];exact e4
end
section
variable {h h':Heap} {col aC:Nat→Nat} {m s q J:Nat} {tv gv:AV} {D:List Int} {ws:Ws} {gs:List (Nat×Int)} {T:List Tk} {L:List En} {st:St} {Q:AV→Heap→Prop} {t:Int}
theorem EH{b es:Nat}{op:Bool}{D':List Int}(M:rQ h q b es op D)(c1:col q=3)(c2:col b=3)(M':rQ h' q b es op D')(fr:Fr h h' [b]):Kc h h' col (b8 col h.next 3) (· =3)∧Ax h' (b8 col h.next 3) q D':=
 ⟨Kc.of fr (by intro c hc _;simp at hc;rw[hc];exact c2),b,es,op,M',by rw[bO M.lm,c1],by rw[bO M.lb,c2]⟩
theorem SD{n:Nat}(h:1≤n)(h2:n<100):RK n:=⟨h,h2⟩
theorem N8(R:RC h col m st)(hL:st.L.length≤900)(hQ:∀h' aC,RC h' aC m (xx st t).2→Kc h h' col aC RK→Q (.bool (xx st t).1) h'):VD fs ms 72 [.ptr m 0,.int .i64 t] h Q:=by
 have R0:=R;obtain⟨s,q,J,tv,gv,ws,gs,R,e1,e2,e4⟩:=R;refine ak (af:=VV) true rfl (Nat.le_of_ble_eq_true rfl) ?_;conv=>whnf
 refine oz R ?_;rw[←e1];conv=>whnf
 refine br (fun hc=>?_) (fun hc=>?_)<;>(try rw[hc])<;>(conv=>whnf)
 ·rw[xx,if_pos (by simpa using hc)] at hQ;exact hQ h col R0 (Kc.refl _ _ _)
 have ho:lY st.T st.j t=0:=by simpa using hc
 rw[xx,if_neg (by simpa using ho)] at hQ;obtain⟨i,b,j,rfl,hi,hw,hj⟩:=kG R.tl e1 ho;rw[Int.toNat_natCast] at hQ;have It:=(List.getElem?_eq_some_iff.1 hw).1;repeat(first|(refine⟨_,aT R.dB.get rfl,?_⟩;conv=>whnf)|(refine⟨_,aJ It,?_⟩;conv=>whnf))
 refine bW (bq R.kr.get rfl (by rw[List.length_map,List.length_map];omega) rfl) fun h1 E1=>?_;have dy:Fr h h1 [J]:=by rw[E1];exact(Fr.refl _ _).set (by simp)
 have f1:Kc h h1 col (b8 col h.next 4) (· =4):=Kc.of dy (by intro c hc _;simp at hc;rw[hc];exact R.kr.co);have R1:=R.SZ (w:=none) It f1 (by rw[E1];exact ay) (fun x hx=>by cases hx);clear E1;have k1:=f1.wk (K':=RK) fun n hn=>by subst hn;exact SD (by omega) (by omega)
 generalize b8 col h.next 4=colA at*;obtain⟨qb,es,op,M,d1,d2⟩:=R1.z5;have Y4:=(e4 i j hj).2;have YB:gD (dQ st.j) i=j.e:=si hj;have hlen:i<(dQ st.j).length:=by rw[tq];exact(List.getElem?_eq_some_iff.1 hj).1
 conv=>whnf
 repeat(first|(refine⟨_,aT R1.dB.get rfl,?_⟩;conv=>whnf))
 refine Gd M _ (fun hn=>?_) (fun n hn FR hg h2 M' ey=>?_)
 ·rw[vR,decide_eq_true (by omega),decide_eq_true (by omega),Int.toNat_natCast,YB,decide_eq_true Y4] at hn;exact absurd hn (by decide)
 have hni:n=i:=by omega
 subst hni;obtain⟨f2,Q2⟩:=EH M d1 d2 M' ey;have R2:=R1.Ju f2 Q2;have k2:=f2.wk (K':=RK) fun n hn=>by subst hn;exact SD (by omega) (by omega)
 generalize b8 colA h1.next 3=colB at*;obtain⟨WH,v2,S,s1,s2,s3⟩:=R2.stk;have CU:cz st.T (n:Int)=0:=by rw[cz,decide_eq_false (by omega),decide_eq_false (by omega)];rfl
 conv=>whnf
 repeat(first|(refine⟨_,aT R2.dB.get rfl,?_⟩;conv=>whnf))
 refine JY S CU hL fun h3 w v' S' gx rT=>?_;obtain⟨f3,S3⟩:=Ak S s1 s2 s3 S' gx (by simp) rT;have R3:=R2.DA f3 S3;have k3:=f3.wk (K':=RK) fun n hn=>by subst hn;exact SD (by omega) (by omega)
 generalize b8 colB h2.next 2=colC at*;conv=>whnf
 refine hQ h3 colC ⟨s,q,J,tv,gv,ws.set n none,gs,?_,?_,e2,fun k jn hn=>?_⟩ (k1.trans (k2.trans k3))
 ·have:dQ (st.j.set n none)=(dQ st.j).set n (-1):=by rw[dQ,dQ,List.map_set]
  show qz h3 colC m s q J tv gv (dQ (st.j.set n none)) (ws.set n none) gs st.T (jH st.L n);rw[this];exact R3
 ·show st.j.set n none=wj (ws.set n none);rw[e1,wj,wj,List.map_set];rfl
 ·have hn:(st.j.set n none)[k]?=some (some jn):=hn;rw[List.getElem?_set] at hn;split at hn
  ·split at hn<;>simp at hn
  ·exact e4 k jn hn
theorem Oa{kk:Nat}{l:List Op}{now:Int}(R:RC h col m st)(hl:l.length<2^62)(hQ:∀h' aC,RC h' aC m (wM st t l now).2→Kc h h' col aC RK→Q (.int .i64 (wM st t l now).1) h'):VD fs ms 64 [.ptr m 0,.int .i64 t,.fz kk (ops l),.int .i64 now] h Q:=by
 have R0:=R;obtain⟨s,q,J,tv,gv,ws,gs,R,e1,e2,e4⟩:=R;have n4:=R.n4;have KM:=R.tl;have su:=R.gl;by_cases ha:cz st.T t=0
 rotate_left
 ·have h9:cz st.T t=9:=by
   rw[cz] at ha⊢;split at ha
   ·rename_i hh;rw[if_pos hh]
   ·exact absurd rfl ha
  rw[wM,if_pos ha,h9] at hQ;refine ak (af:=Ta) true rfl (Nat.le_of_ble_eq_true rfl) ?_;conv=>whnf
  refine br (fun hc=>?_) (fun hc=>?_)<;>(try rw[hc])<;>(conv=>whnf)
  ·exact hQ h col R0 (Kc.refl _ _ _)
  have hneg:=hc;repeat(first|(refine⟨_,aT R.dB.get rfl,?_⟩;conv=>whnf))
  rw[R.An.1.len];conv=>whnf
  refine br (fun hc=>?_) (fun hc=>?_)<;>(try rw[hc])<;>(conv=>whnf)
  ·exact hQ h col R0 (Kc.refl _ _ _)
  ·rw[cz,hneg,hc] at ha;exact absurd rfl ha
 rw[wM,if_neg (by simpa using ha)] at hQ;obtain⟨i,rfl,hi⟩:=td ha;rw[Int.toNat_natCast] at hQ;have It:i<ws.length:=by omega
 have hw:ws[i]?=some ws[i]:=List.getElem?_eq_getElem It;refine ak (af:=Ta) true rfl (Nat.le_of_ble_eq_true rfl) ?_;conv=>whnf
 repeat(first|(refine⟨_,aT R.dB.get rfl,?_⟩;conv=>whnf))
 rw[R.An.1.len];conv=>whnf
 refine nE (by simp;omega) (fun hc=>?_)
 (try rw[hc])
 conv=>whnf
 cases TS:ws[i] with
 |some w=>
  rw[TS] at hw;repeat(first|(refine⟨_,aT R.dB.get rfl,?_⟩;conv=>whnf)|(refine⟨_,aJ It,?_⟩;conv=>whnf)|(refine⟨_,aT R.kr.get (fN hw),?_⟩;conv=>whnf))
  have hj:st.j[i]?=some (some w.2):=by rw[e1];exact dn hw
  rw[hj] at hQ;exact hQ h col R0 (Kc.refl _ _ _)
 |none=>
 rw[TS] at hw;have Wu:((ws.map (Option.map Prod.fst)).map xF)[i*1]?=some (xF none):=by rw[Nat.mul_one,List.getElem?_map,List.getElem?_map,hw];rfl
 have hj:st.j[i]?=some none:=by rw[e1];exact sW hw
 obtain⟨g,Ec⟩:∃g,gs[i]?=some g:=⟨_,List.getElem?_eq_getElem (by omega)⟩;have sZ:st.g[i]?=some g.2:=by rw[e2,List.getElem?_map,Ec];rfl
 have Nk:st.T[i]?=some st.T[i]:=List.getElem?_eq_getElem hi;rw[hj,Nk,sZ] at hQ;simp only at hQ;obtain⟨tb,s6,_,Y8⟩:=R.An.1.at hi;generalize st.T[i]=l7 at*;repeat(first|(refine⟨_,aT R.dB.get rfl,?_⟩;conv=>whnf)|(refine⟨_,aJ It,?_⟩;conv=>whnf)|(refine⟨_,aT R.kr.get Wu,?_⟩;conv=>whnf))
 repeat(first|(refine⟨_,aT R.dB.get rfl,?_⟩;conv=>whnf)|(refine⟨_,s6,?_⟩;conv=>whnf)|(refine⟨_,Y8,?_⟩;conv=>whnf))
 refine Om hl (fun hn h5 fr=>?_) (fun hz h5 b p C v JJ hb hp hC Yz fr=>?_)
 ·rw[if_pos hn] at hQ;conv=>whnf
  refine qt ((by simpa using hn)) (fun hc=>?_)
  (try rw[hc])
  conv=>whnf
  exact hQ h5 col (R0.nil fr) (Kc.same fr)
 rw[if_neg (by simpa using hz)] at hQ;obtain⟨ZC,ok2,ok3,ok4,ZD⟩:=Ep hz;have j7:=JJ.rw.lt;have Tf:JR h5 b p (if l=[] then p else C) 0 v (jG l7 l now):=by
  refine⟨JJ.lt,JJ.st,JJ.rw.any (fun hne=>if_neg hne),JJ.n1,?_⟩;by_cases e:l=[]
  ·rw[if_pos e];exact JJ.n1
  ·rw[if_neg e];exact JJ.n2
 have f5:Kc h h5 col (b8 col h.next (10+i)) (fun _=>False):=Kc.nil fr (10+i);have Pk:(if l=[] then p else C)<h5.next∧h.next≤(if l=[] then p else C):=by
  by_cases e:l=[]
  ·rw[if_pos e];exact⟨j7,hp⟩
  ·rw[if_neg e];exact⟨Yz e,hC⟩
 have JB:O3 h5 (b8 col h.next (10+i)) i b (jG l7 l now):=⟨p,_,0,v,Tf,Pk.1,cA hb,cA hp,cA Pk.2⟩;have R5:=R.keep f5 (fun _ _ _ h=>h);have k5:=f5.wk (K':=RK) fun _ h=>h.elim;generalize b8 col h.next (10+i)=mX at*;obtain⟨a1,a2,a3,a4⟩:=R5.uL.all i g l7 Ec Nk;have hgrow:∃G op es,gv=.sl G 0 gs.length gs.length op∧h5.get G=some (.cells (gs.map fun g=>.ptr g.1 0) true es):=by
  rcases R5.uL.row with h|⟨G,op,es,b1,_,_,b2⟩
  ·rw[h] at Ec;simp at Ec
  ·exact⟨G,op,es,b1,b2⟩
 obtain⟨G,op,es,rfl,hG⟩:=hgrow;have YC:(gs.map fun g=>AV.ptr g.1 0)[i*1]?=some (.ptr g.1 0):=by rw[Nat.mul_one,List.getElem?_map,Ec];rfl
 have Y2:i<gs.length:=by omega
 conv=>whnf
 repeat(first|(refine⟨_,aT R5.dB.get rfl,?_⟩;conv=>whnf)|(refine⟨_,aJ Y2,?_⟩;conv=>whnf)|(refine⟨_,aT hG YC,?_⟩;conv=>whnf))
 refine Oj a4 fun h6 YL CN=>?_;have f6:Kc h5 h6 mX (b8 mX h5.next (20+i)) (· =20+i):=Kc.of CN (by intro c hc _;simp at hc;rw[hc];exact a3);have R6:=R5.Qy Ec Nk f6 YL;have WJ:=JB.keep f6 (by omega);have k6:=f6.wk (K':=RK) fun n hn=>by subst hn;exact SD (by omega) (by omega)
 generalize b8 mX h5.next (20+i)=col6 at*;have eg:(gs.set i (g.1,zx l7.p g.2 now)).map Prod.snd=st.g.set i (zx l7.p g.2 now):=by rw[List.map_set,←e2]
 conv=>whnf
 by_cases Ng:kA g.2 now=0
 rotate_left
 ·rw[if_pos Ng] at hQ;refine qt ((by simpa using Ng)) (fun hc=>?_)
  (try rw[hc])
  conv=>whnf
  have eg2:zx l7.p g.2 now=g.2:=by rw[zx,if_neg Ng]
  have hsg:gs.set i (g.1,g.2)=gs:=dc Ec;rw[eg2,hsg] at R6;exact hQ h6 col6 ⟨s,q,J,tv,_,ws,gs,R6,e1,e2,e4⟩ (k5.trans k6)
 rw[if_neg (by simpa using Ng)] at hQ;refine nE ((by simpa using Ng)) (fun hc=>?_)
 (try rw[hc])
 conv=>whnf
 repeat(first|(refine⟨_,aT R6.dB.get rfl,?_⟩;conv=>whnf)|(refine⟨_,aJ It,?_⟩;conv=>whnf))
 refine bW (bq R6.kr.get rfl (by rw[List.length_map,List.length_map];omega) rfl) fun h7 E7=>?_;have Pe:Fr h6 h7 [J]:=by rw[E7];exact(Fr.refl _ _).set (by simp)
 have f7:Kc h6 h7 col6 (b8 col6 h6.next 4) (· =4):=Kc.of Pe (by intro c hc _;simp at hc;rw[hc];exact R6.kr.co);have Te:=WJ.keep f7 (by omega);have R7:=R6.SZ (w:=some (b,jG l7 l now)) It f7 (by rw[E7];exact ay) (fun x hx=>by cases hx;exact Te);have k7:=f7.wk (K':=RK) fun n hn=>by subst hn;exact SD (by omega) (by omega)
 clear E7;generalize b8 col6 h6.next 4=col7 at*;obtain⟨qb,qes,SV,M,d1,d2⟩:=R7.z5;obtain⟨p',C',o',v',WK,_⟩:=Te;have je:(jG l7 l now).e=now+l7.d:=ZD;have YB:gD (dQ st.j) i=-1:=by rw[CC,hj]
 have hlen:(dQ st.j).length=st.T.length:=by rw[tq,e1,wj,List.length_map];exact KM
 conv=>whnf
 repeat(first|(refine⟨_,aT R7.dB.get rfl,?_⟩;conv=>whnf)|(refine⟨_,aT WK.st rfl,?_⟩;conv=>whnf))
 refine RJ M _ _ (fun h=>by omega) (fun _ h=>by rw[je] at h;omega) (fun _ _ h=>by rw[Int.toNat_natCast,YB] at h;omega) (fun _ n hn FR hg h8 M' KE=>?_);have hni:n=i:=by omega
 subst hni;obtain⟨f8,Q8⟩:=EH M d1 d2 M' KE;have R8:=R7.Ju f8 Q8;have k8:=f8.wk (K':=RK) fun n hn=>by subst hn;exact SD (by omega) (by omega)
 generalize b8 col7 h7.next 3=col8 at*;conv=>whnf
 refine hQ h8 col8 ⟨s,q,J,tv,.sl G 0 gs.length gs.length op,ws.set n (some (b,jG l7 l now)),gs.set n (g.1,zx l7.p g.2 now),?_,?_,eg.symm,fun k jn hkn=>?_⟩ (k5.trans (k6.trans (k7.trans k8)))
 ·have:dQ (st.j.set n (some (jG l7 l now)))=(dQ st.j).set n (jG l7 l now).e:=by rw[dQ,dQ,List.map_set]
  show qz h8 col8 m s q J tv (.sl G 0 gs.length gs.length op) (dQ (st.j.set n (some (jG l7 l now)))) _ _ st.T st.L;rw[this];exact R8
 ·show st.j.set n (some (jG l7 l now))=wj (ws.set n (some (b,jG l7 l now)));rw[Aq,←e1]
 ·have hkn:(st.j.set n (some (jG l7 l now)))[k]?=some (some jn):=hkn;rw[List.getElem?_set] at hkn;split at hkn
  ·split at hkn
   ·cases hkn
    exact⟨ZC,by omega⟩
   ·cases hkn
  ·exact e4 k jn hkn
end
structure O7(h0:Heap)(nH:Nat→Nat)(h:Heap)(col:Nat→Nat)(r J:Nat)(T:List Tk)(tv gv:AV)(gs:List (Nat×Int)):Prop where
 r0:h0.next≤r
 lt:r<h.next
 co:col r=1
 get:h.get r=some (.cells [tv,gv,.aQ,.aQ,.sl J 0 T.length T.length false] true 0)
 jl:J<h.next
 jc:col J=4
 jg:h.get J=some (.cells (List.replicate T.length .aQ) true 0)
 An:Tj h col tv T
 row:(gs=[]∧gv=.aL)∨∃G,gv=.sl G 0 gs.length gs.length true∧G<h.next∧(h0.next≤G∧col G=5)∧h.get G=some (.cells (gs.map fun g=>.ptr g.1 0) true 1)
 all:∀i g t,gs[i]?=some g→T[i]?=some t→t.p≠0∧g.1<h.next∧col g.1=20+i∧h.get g.1=some (gB t.p g.2)
 z:gs.map Prod.snd=List.replicate gs.length 0
 kc:Kc h0 h nH col (fun _=>False)
section
variable {h0 h h':Heap} {nH col aC:Nat→Nat} {r J:Nat} {T:List Tk} {tv gv:AV} {gs:List (Nat×Int)}
theorem O7.keep(S:O7 h0 nH h col r J T tv gv gs)(f:Kc h h' col aC (fun _=>False)):O7 h0 nH h' aC r J T tv gv gs:=by
 refine⟨S.r0,Nat.lt_of_lt_of_le S.lt f.next,(f.col r S.lt).trans S.co,(f.keep r S.lt id).trans S.get,Nat.lt_of_lt_of_le S.jl f.next,(f.col J S.jl).trans S.jc,(f.keep J S.jl id).trans S.jg,S.An.keep f id,?_,fun i g t hg ht=>?_,S.z,S.kc.trans f⟩
 ·rcases S.row with h|⟨G,h1,h2,h3,h4⟩
  ·exact .inl h
  ·exact .inr ⟨G,h1,Nat.lt_of_lt_of_le h2 f.next,⟨h3.1,(f.col G h2).trans h3.2⟩,(f.keep G h2 id).trans h4⟩
 ·obtain⟨h1,h2,h3,h4⟩:=S.all i g t hg ht;exact⟨h1,Nat.lt_of_lt_of_le h2 f.next,(f.col _ h2).trans h3,(f.keep _ h2 id).trans h4⟩
theorem O7.app(S:O7 h0 nH h col r J T tv gv gs)(hl:gs.length≤4)(g:Nat):
  ∃v' g' G,eV (.append 1 8) [gv,.sl h.next 0 1 1 false] (h.new (.cells [.ptr g 0] true 0))=some (v',g')∧v'=.sl G 0 (gs.length+1) (gs.length+1) true∧h.next≤G∧G<g'.next∧
   g'.get G=some (.cells ((gs.map fun g=>.ptr g.1 0)++[.ptr g 0]) true 1)∧h.next≤g'.next∧∀c,c<h.next→(c<h0.next∨col c≠5)→g'.get c=h.get c:=by
 have hsrc:dm 1 (h.new (.cells [.ptr g 0] true 0)) (.sl h.next 0 1 1 false)=some (1,[.ptr g 0]):=ql aj rfl;rcases S.row with⟨h1,h2⟩|⟨G,h1,h2,h3,h4⟩
 ·subst h1 h2;refine⟨_,_,h.next+1,mV (by omega) hsrc rfl,rfl,by omega,Nat.lt_succ_self _,?_,by show h.next≤h.next+1+1;omega,fun c hc _=>?_⟩
  ·exact aj (h:=h.new (.cells [.ptr g 0] true 0))
  ·exact(aA (h:=h.new (.cells [.ptr g 0] true 0)) (show c<h.next+1 by omega)).trans (aA hc)
 ·subst h1;have hg:(h.new (.cells [.ptr g 0] true 0)).get G=some (.cells (gs.map fun g=>.ptr g.1 0) true 1):=by rw[aA h2];exact h4
  refine⟨_,_,h.next+1,mT hg (by rw[List.length_map,Nat.mul_one]) hsrc rfl (by omega) (by omega),rfl,by omega,Nat.lt_succ_self _,?_,by show h.next≤h.next+1+1;omega,fun c hc hn=>?_⟩
  ·exact aj (h:=(h.new (.cells [.ptr g 0] true 0)).del G)
  ·have hne:c≠G:=by
    rintro rfl;rcases hn with h|h
    ·have:=h3.1;omega
    ·exact h h3.2
   exact(aA (h:=(h.new (.cells [.ptr g 0] true 0)).del G) (show c<h.next+1 by omega)).trans ((ep hne).trans (aA hc))
theorem N9{k r J B:Nat}{Q:AX→Env→Heap→Prop}(hok:∀t∈T,1≤t.p∧t.p≤64)(hT:T.length≤4)
  (hQ:∀h col gv gs e,O7 h0 nH h col r J T tv gv gs→gs.length=T.length→dr e [(0,.fz k (eP T)),(4,.ptr r 0)]→Q (.exit 0) e h):
  ∀(m i:Nat) (h:Heap) (col:Nat→Nat) (gv:AV) (gs:List (Nat×Int)) (env:Env),T.length-i=m→i≤T.length→gs.length=i→O7 h0 nH h col r J T tv gv gs→
   dr env [(0,.fz k (eP T)),(4,.ptr r 0),(5,.int .i64 ((i:Nat):Int))]→VC fs ms B false (.loop iZ) env h Q:=by
 intro m;induction m using Nat.strongRecOn with
 |ind m ih=>
 intro i h col gv gs env hm hi hg S dF;refine aH 6 _ dF ?_;refine dI (z:=true) ?_;conv=>whnf
 rw[bt];conv=>whnf
 refine br (fun hc=>?_) (fun hc=>?_)<;>(try rw[hc])<;>(conv=>whnf)
 ·have hlt:i<T.length:=by have:=of_decide_eq_true hc;omega
  conv=>whnf
  refine⟨_,kD hlt,?_⟩;conv=>whnf
  obtain⟨t,ht⟩:∃t,t=T[i]:=⟨_,rfl⟩;have Ul:T[i]?=some t:=by rw[ht];exact List.getElem?_eq_getElem hlt
  have hp:=hok t (by rw[ht];exact List.getElem_mem _);rw[←ht];refine⟨.int .i64 t.p,rfl,?_⟩;conv=>whnf
  refine Oi (fun _=>?_) (fun h=>(h hp).elim);conv=>whnf
  have ey:Fr h (h.new (gB t.p 0)) []:=(Fr.refl h []).new;have sZ:=aj (h:=h) (x:=gB t.p 0);have su:h.next<(h.new (gB t.p 0)).next:=Nat.lt_succ_self _
  have Po:b8 col h.next (20+i) h.next=20+i:=cA (Nat.le_refl _);have S2:=S.keep (Kc.nil (col:=col) ey (20+i));generalize h.new (gB t.p 0)=h2 at*;generalize b8 col h.next (20+i)=iT at*;generalize h.next=gn at*;refine⟨_,aT S2.get rfl,?_⟩;conv=>whnf
  obtain⟨v',g',G,a1,rfl,a2,a3,a4,a5,a6⟩:=S2.app (by omega) gn;refine⟨_,_,a1,?_⟩;conv=>whnf
  have xD:g'.get r=some (.cells [tv,gv,.aQ,.aQ,.sl J 0 T.length T.length false] true 0):=(a6 r S2.lt (.inr (by rw[S2.co];decide))).trans S2.get;refine⟨_,_,bq xD rfl (Nat.le_of_ble_eq_true rfl) rfl,?_⟩;conv=>whnf
  have YD:G≠r:=by have:=S2.lt;omega
  have YE:J≠r:=by intro e;have:=S2.jc;rw[e,S2.co] at this;omega
  obtain⟨h3,e3⟩:∃g,g=(g'.set r (.cells (Heap.splice [tv,gv,.aQ,.aQ,.sl J 0 T.length T.length false] (0+1) (AV.sl G 0 (gs.length+1) (gs.length+1) true).cells) true 0)):=⟨_,rfl⟩;have x3:h3.next=g'.next:=by rw[e3];rfl
  have g3:h3.get r=some (.cells [tv,.sl G 0 (gs.length+1) (gs.length+1) true,.aQ,.aQ,.sl J 0 T.length T.length false] true 0):=by rw[e3];exact ay
  have o3:∀c,c<h2.next→c≠r→(c<h0.next∨iT c≠5)→h3.get c=h2.get c:=fun c hc hn h5=>by rw[e3,aX hn];exact a6 c hc h5
  have gG:h3.get G=g'.get G:=by rw[e3,aX YD]
  rw[←e3];clear e3;refine ih (T.length-(i+1)) (by omega) (i+1) h3 (b8 iT h2.next 5) (.sl G 0 (gs.length+1) (gs.length+1) true) (gs++[(gn,0)]) _ rfl (by omega) (by simp[hg]) ⟨S2.r0,by have:=S2.lt;omega,(bO S2.lt).trans S2.co,?_,by have:=S2.jl;omega,(bO S2.jl).trans S2.jc,?_,?_,?_,fun n g u hn hu=>?_,?_,?_⟩ ⟨rfl,rfl,aK (by omega),trivial⟩
  ·exact g3
  ·exact(o3 J S2.jl YE (.inr (by rw[S2.jc];decide))).trans S2.jg
  ·refine S2.An.keep (K:=fun n=>n=1∨n=5) ⟨by omega,fun c hc hn=>o3 c hc (fun e=>hn (.inl (by rw[e,S2.co]))) (.inr fun e=>hn (.inr e)),fun c hc=>bO hc⟩ (by decide)
  ·refine .inr ⟨G,by rw[List.length_append];rfl,by omega,⟨Nat.le_trans S2.kc.next a2,cA a2⟩,?_⟩;rw[List.map_append];exact gG.trans a4
  ·have key:∀(n:Nat) (g:Nat×Int) (u:Tk),(u.p≠0∧g.1<h2.next∧iT g.1=20+n∧h2.get g.1=some (gB u.p g.2))→u.p≠0∧g.1<h3.next∧b8 iT h2.next 5 g.1=20+n∧h3.get g.1=some (gB u.p g.2):=by
    rintro n g u ⟨h1,h2,h3,h4⟩;have hne:g.1≠r:=by intro e;rw[e,S2.co] at h3;omega
    exact⟨h1,by omega,(bO h2).trans h3,(o3 _ h2 hne (.inr (by omega))).trans h4⟩
   by_cases e:n<gs.length
   ·rw[List.getElem?_append_left e] at hn;exact key n g u (S2.all n g u hn hu)
   ·rw[List.getElem?_append_right (by omega)] at hn;have e0:n-gs.length=0:=by
     have:=(List.getElem?_eq_some_iff.1 hn).1;simp at this;omega
    rw[e0] at hn;cases hn
    have en:n=i:=by omega
    subst en;rw[Ul] at hu;cases hu
    exact key n (gn,0) t ⟨by omega,su,Po,sZ⟩
  ·rw[List.map_append,S2.z,List.length_append];exact(List.replicate_succ' ..).symm
  ·refine⟨by have:=S2.kc.next;omega,fun c hc hn=>?_,fun c hc=>(bO (Nat.lt_of_lt_of_le hc S2.kc.next)).trans (S2.kc.col c hc)⟩;have hne:c≠r:=by have:=S2.r0;omega
   exact(o3 c (Nat.lt_of_lt_of_le hc S2.kc.next) hne (.inl hc)).trans (S2.kc.keep c hc id)
 ·have hge:i=T.length:=by have:=of_decide_eq_false hc;omega
  exact hQ _ _ _ _ _ S (by omega) ⟨rfl,rfl,trivial⟩
theorem Mz{h:Heap}{k:Nat}(hT:T.length≤4):∃b op g',eV (.append 8 64) [.sl h.next 0 0 0 false,.fz k (eP T)] (h.new (.cells [] true 0))=some (.sl b 0 T.length T.length op,g')∧DM g' (.sl b 0 T.length T.length op) T∧Fr h g' []∧h.next≤b:=by
 have lq:Fr h (h.new (.cells [] true 0)) []:=(Fr.refl h []).new;cases T with
 |nil=>
  refine⟨_,_,_,vv rfl rfl,.inl ⟨rfl,.inr ⟨h.next,rfl,Nat.lt_succ_self _,aj⟩⟩,lq,Nat.le_refl _⟩
 |cons t T=>
  refine⟨_,_,_,zf (n:=T.length) aj (by decide) (by simp at hT;omega) (by rw[rN (iy _),bt];rfl) (tD _),?_,lq.new,Nat.le_succ _⟩;refine .inr ⟨h.next+1,true,rfl,Nat.lt_succ_self _,?_⟩;exact aj (h:=h.new (.cells [] true 0))
theorem EK{Q:AV→Heap→Prop}(k:Nat)(hT:T.length<2^62)
  (h0:cj T=false→Q (.cq [.aQ,.int .i64 2]) h)
  (h1:cj T=true→∀h' aC m,RC h' aC m ⟨T,[],List.replicate T.length none,List.replicate T.length 0⟩→Kc h h' col aC (fun _=>False)→Q (.cq [.ptr m 0,.int .i64 0]) h'):VD fs ms 16 [.fz k (eP T)] h Q:=by
 refine bY (af:=U3) rfl (Nat.le_of_ble_eq_true rfl) ?_;conv=>whnf
 refine aF true ?_;conv=>whnf
 refine bu (aF true ?_);conv=>whnf
 refine aR (B3 k T (by omega)) ?_;conv=>whnf
 by_cases hto:cj T=true
 rotate_left
 ·have hto:cj T=false:=by simpa using hto
  rw[hto];refine gW (aq (z:=true) ?_);conv=>whnf
  exact h0 hto
 rw[hto];refine gW (aq (z:=true) ?_);conv=>whnf
 have h4:=nI hto;refine bu (aq (z:=true) ?_);conv=>whnf
 obtain⟨b,op,g1,a1,R1,dy,o1⟩:=Mz (k:=k) (h:=h) h4;refine⟨_,_,a1,?_⟩;conv=>whnf
 rw[bt];refine⟨_,_,Jd h4,?_⟩;conv=>whnf
 refine bu (aF true ?_);conv=>whnf
 refine bx ?_;obtain⟨vQ,sX⟩:∃g,g=g1.new (.cells (List.replicate T.length .aQ) true 0):=⟨_,rfl⟩;obtain⟨CR,xw⟩:∃g,g=vQ.new (.cells [.sl b 0 T.length T.length op,.aL,.aQ,.aQ,.sl g1.next 0 T.length T.length false] true 0):=⟨_,rfl⟩;have n1:=dy.next;have n2:vQ.next=g1.next+1:=by rw[sX];rfl
 have n3:CR.next=vQ.next+1:=by rw[xw];rfl
 have gJ:CR.get g1.next=some (.cells (List.replicate T.length .aQ) true 0):=by rw[xw,aA (by omega),sX];exact aj
 have gr:CR.get vQ.next=some (.cells [.sl b 0 T.length T.length op,.aL,.aQ,.aQ,.sl g1.next 0 T.length T.length false] true 0):=by rw[xw];exact aj
 have FI:Fr g1 CR []:=by rw[xw,sX];exact((Fr.refl g1 []).new).new
 have gx:Fr h CR []:=dy.trans FI;have R3:=R1.keep FI (by simp);have blt:b<g1.next:=(R1.lt b (by simp[dN])).1;have QZ:∀t∈T,1≤t.p∧t.p≤64:=by
  have Uo:=hto;rw[cj,Bool.and_eq_true,List.all_eq_true] at Uo;intro t ht;have:=Uo.1 t ht;simp only[iG,decide_eq_true_eq] at this;omega
 have S0:O7 h col CR (b8 (b8 (b8 col h.next 6) g1.next 4) vQ.next 1) vQ.next g1.next T (.sl b 0 T.length T.length op) .aL []:=by
  refine⟨by omega,by omega,cA (Nat.le_refl _),gr,by omega,by rw[bO (by omega),cA (Nat.le_refl _)],gJ,⟨R3,fun d hd=>?_⟩,.inl ⟨rfl,rfl⟩,fun i g t hg=>by simp at hg,rfl,⟨gx.next,fun c hc _=>gx.keep c hc (by simp),fun c hc=>by rw[bO (by omega),bO (by omega),bO hc]⟩⟩;have:d=b:=by simpa[dN] using hd
  subst this;rw[bO (by omega),bO (by omega),cA o1]
 subst xw;subst sX;refine N9 (h0:=h) (nH:=col) QZ h4 ?_ T.length 0 _ _ _ [] _ rfl (Nat.zero_le _) rfl S0 ⟨rfl,rfl,rfl,trivial⟩;intro h5 mX gv gs e5 S su Nf;clear S0 gr gJ n2 n3 gx FI R3 n1 blt;generalize(g1.new (.cells (List.replicate T.length .aQ) true 0)).next=r at S Nf
 generalize g1.next=J at S;refine aH 6 _ Nf (aq (z:=true) ?_);conv=>whnf
 rw[bt];refine RI ((T.length:Nat):Int) (fun h=>by omega) fun i hi _ h6 q qb qes SV M hq1 hq2 CN=>?_;have hi':i=T.length:=by omega
 subst hi';have f6:Kc h5 h6 mX (b8 mX h5.next 3) (fun _=>False):=Kc.nil CN 3;have c1:b8 mX h5.next 3 q=3:=cA hq1;have c2:b8 mX h5.next 3 qb=3:=cA hq2;have S6:=S.keep f6;generalize b8 mX h5.next 3=col6 at*;conv=>whnf
 refine OA h4 fun h7 s stv ST rR uO Pe=>?_;have f7:Kc h6 h7 col6 (b8 col6 h6.next 2) (fun _=>False):=Kc.nil Pe 2;have d1:b8 col6 h6.next 2 s=2:=cA rR;have d2:∀d,d∈dN stv→b8 col6 h6.next 2 d=2:=fun d hd=>cA (uO d hd);have S7:=S6.keep f7;have Q7:Ax h7 (b8 col6 h6.next 2) q (rep T.length):=Ax.keep ⟨qb,qes,SV,M,c1,c2⟩ f7 id;have K7:Cr h7 (b8 col6 h6.next 2) s T []:=⟨stv,.aL,ST,d1,d2,by simp[dN]⟩;generalize b8 col6 h6.next 2=col7 at*;conv=>whnf
 refine bW (bq S7.get rfl (Nat.le_of_ble_eq_true rfl) rfl) fun h8 e8=>?_;conv=>whnf
 replace e8:h8=h7.set r (.cells [.sl b 0 T.length T.length op,gv,.ptr q 0,.aQ,.sl J 0 T.length T.length false] true 0):=e8;have g8:h8.get r=some (.cells [.sl b 0 T.length T.length op,gv,.ptr q 0,.aQ,.sl J 0 T.length T.length false] true 0):=by rw[e8];exact ay
 have KE:Fr h7 h8 [r]:=by rw[e8];exact(Fr.refl _ _).set (by simp)
 clear e8;refine bW (bq g8 rfl (Nat.le_of_ble_eq_true rfl) rfl) fun h9 e9=>?_;conv=>whnf
 replace e9:h9=h8.set r (.cells [.sl b 0 T.length T.length op,gv,.ptr q 0,.ptr s 0,.sl J 0 T.length T.length false] true 0):=e9;have g9:h9.get r=some (.cells [.sl b 0 T.length T.length op,gv,.ptr q 0,.ptr s 0,.sl J 0 T.length T.length false] true 0):=by rw[e9];exact ay
 have D5:Fr h7 h9 [r]:=by rw[e9];exact KE.trans ((Fr.refl _ _).set (by simp))
 clear e9;have kc:=S7.kc;have r0:=S7.r0;have f9:Kc h7 h9 col7 col7 (· =1):=⟨D5.next,fun c hc hn=>D5.keep c hc (by simp;intro e;exact hn (by rw[e];exact S7.co)),fun _ _=>rfl⟩;have BZ:r<h9.next:=Nat.lt_of_lt_of_le S7.lt D5.next;have hrj:J≠r:=by intro e;have:=S7.jc;rw[e,S7.co] at this;omega
 refine h1 hto h9 col7 r ⟨s,q,J,_,gv,List.replicate T.length none,gs,⟨h4,List.length_replicate,su,⟨BZ,S7.co,by rw[List.length_replicate];exact g9⟩,S7.An.keep f9 (by decide),K7.keep f9 (by decide),?_,⟨Nat.lt_of_lt_of_le S7.jl D5.next,S7.jc,?_⟩,fun i w hw=>?_,?_⟩,?_,?_,fun i j hj=>?_⟩ ⟨by have:=kc.next;have:=D5.next;omega,fun c hc _=>(D5.keep c (by have:=kc.next;omega) (by simp;omega)).trans (kc.keep c hc id),kc.col⟩
 ·rw[show dQ (List.replicate T.length (none:Option Jb))=rep T.length from List.map_replicate ..];exact Q7.keep f9 (by decide)
 ·rw[D5.keep J S7.jl (by simpa using hrj),S7.jg,List.map_replicate,List.map_replicate];rfl
 ·rw[List.getElem?_replicate] at hw;split at hw<;>cases hw
 ·refine⟨?_,fun i g t hg ht=>?_⟩
  ·rcases S7.row with⟨h,_⟩|⟨G,a1,a2,a3,a4⟩
   ·exact .inl h
   ·exact .inr ⟨G,_,_,a1,Nat.lt_of_lt_of_le a2 D5.next,a3.2,(f9.keep G a2 (by rw[a3.2];decide)).trans a4⟩
  ·obtain⟨a1,a2,a3,a4⟩:=S7.all i g t hg ht;exact⟨a1,Nat.lt_of_lt_of_le a2 D5.next,a3,(f9.keep _ a2 (by rw[a3];omega)).trans a4⟩
 ·rw[wj,List.map_replicate];rfl
 ·rw[S7.z,su]
 ·have hj:(List.replicate T.length none)[i]?=some (some j):=hj;rw[List.getElem?_replicate] at hj;split at hj<;>cases hj
theorem CE(T:List Tk):dA T (List.replicate T.length 0)=if cj T then 0 else 2:=by
 have h1:(List.replicate T.length (0:Int)).any mA=false:=by
  rw[List.any_eq_false];intro x hx;rw[(List.mem_replicate.1 hx).2];decide
 rw[dA,h1,List.length_replicate];cases cj T<;>simp
end
def O9{α:Type}(st:St)(t:Int)(z:α)(f:Jb→α):α:=if lY st.T st.j t≠0 then z else match st.j[t.toNat]? with
 |some (some j)=>f j
 |_=>z
theorem oK{α:Type}{st:St}{t:Int}{z:α}{f:Jb→α}(h:lY st.T st.j t≠0):O9 st t z f=z:=if_pos h
theorem oJ{α:Type}{st:St}{i:Nat}{j:Jb}{z:α}{f:Jb→α}(hl:i<st.T.length)(h:st.j[i]?=some (some j)):O9 st i z f=f j:=by
 unfold O9;rw[if_neg (by rw[gO hl h];simp),Int.toNat_natCast,h]
def NP(st:St)(t:Int):Op×Bool:=O9 st t (s8,false) fun j=>(j.l.headD s8,!j.l.isEmpty)
def MX(st:St)(t:Int):Int×Bool:=O9 st t (0,false) fun j=>(j.e,true)
def SI(st:St)(t now:Int):Int:=O9 st t 0 fun j=>ru j now
def KI(st:St)(t:Int):List Int:=O9 st t [] fun _=>bz st.L t
section
variable {h h':Heap} {col:Nat→Nat} {r m:Nat} {st:St} {Q:AV→Heap→Prop} {t now:Int}
theorem Oc(R:RC h col m st){i:Nat}{j:Jb}(hj:st.j[i]?=some (some j)):i<st.T.length:=by
 obtain⟨s,q,J,tv,gv,ws,gs,R,e1,e2,e4⟩:=R;have:=(List.getElem?_eq_some_iff.1 hj).1;rw[e1,wj,List.length_map,R.tl] at this;exact this
theorem N2(R:RA h col r st)(hQ:∀h',Fr h h' []→Q (.cq [op (NP st t).1,.bool (NP st t).2]) h'):VD fs ms 35 [.ptr r 0,.int .i64 t] h Q:=
 Ot R (fun hn h' fr=>by have:=hQ h' fr;rw[NP,oK hn] at this;exact this) fun i j ht hj h' fr=>by subst ht;have:=hQ h' fr;rw[NP,oJ (BZ R hj) hj] at this;exact this
theorem MF(R:RC h col m st)(hQ:∀h',Fr h h' []→Q (.cq [op (NP st t).1,.bool (NP st t).2]) h'):VD fs ms 74 [.ptr m 0,.int .i64 t] h Q:=
 JF R (fun hn h' fr=>by have:=hQ h' fr;rw[NP,oK hn] at this;exact this) fun i j ht hj h' fr=>by subst ht;have:=hQ h' fr;rw[NP,oJ (Oc R hj) hj] at this;exact this
theorem NU(R:RA h col r st)(hQ:Q (.cq [.int .i64 (MX st t).1,.bool (MX st t).2]) h):VD fs ms 13 [.ptr r 0,.int .i64 t] h Q:=
 Oe R (fun hn=>by rw[MX,oK hn] at hQ;exact hQ) fun i j ht hj=>by subst ht;rw[MX,oJ (BZ R hj) hj] at hQ;exact hQ
theorem MA(R:RC h col m st)(hQ:Q (.cq [.int .i64 (MX st t).1,.bool (MX st t).2]) h):VD fs ms 75 [.ptr m 0,.int .i64 t] h Q:=
 Jx R (fun hn=>by rw[MX,oK hn] at hQ;exact hQ) fun i j ht hj=>by subst ht;rw[MX,oJ (Oc R hj) hj] at hQ;exact hQ
theorem Jo(R:RA h col r st)(hQ:∀h',Fr h h' []→Q (.int .i64 (SI st t now)) h'):VD fs ms 32 [.ptr r 0,.int .i64 t,.int .i64 now] h Q:=
 JQ R (fun hn=>by have:=hQ h (Fr.refl _ _);rw[SI,oK hn] at this;exact this) fun i j ht hj h' fr=>by subst ht;have:=hQ h' fr;rw[SI,oJ (BZ R hj) hj] at this;exact this
theorem Hu(R:RC h col m st)(hQ:∀h',Fr h h' []→Q (.int .i64 (SI st t now)) h'):VD fs ms 76 [.ptr m 0,.int .i64 t,.int .i64 now] h Q:=
 Gq R (fun hn=>by have:=hQ h (Fr.refl _ _);rw[SI,oK hn] at this;exact this) fun i j ht hj h' fr=>by subst ht;have:=hQ h' fr;rw[SI,oJ (Oc R hj) hj] at this;exact this
theorem RV(R:RA h col r st)(hL:st.L.length≤1000)(hQ:∀h' v,fI h.next h' v (KI st t)→Fr h h' []→Q v h'):VD fs ms 14 [.ptr r 0,.int .i64 t] h Q:=
 Ok R hL (fun hn=>hQ h .aL (by rw[KI,oK hn];exact .inl ⟨rfl,rfl⟩) (Fr.refl _ _)) fun i j ht hj h' v hr fr=>by subst ht;exact hQ h' v (by rw[KI,oJ (BZ R hj) hj];exact hr) fr
theorem MB(R:RC h col m st)(hL:st.L.length≤1000)(hQ:∀h' v,(∃k,ny (fun _=>True) h' v (.fz k (ints (KI st t))))→Fr h h' []→Q v h'):VD fs ms 78 [.ptr m 0,.int .i64 t] h Q:=
 JA R hL (fun hn=>hQ h .aL (by rw[KI,oK hn];exact⟨3,.aL⟩) (Fr.refl _ _)) fun i j ht hj h' v hr fr=>by
  subst ht;refine hQ h' v ?_ fr;rw[KI,oJ (Oc R hj) hj];rcases hr with⟨h1,rfl⟩|⟨hne,b,h1,h2,rfl,h4⟩
  ·rw[h1];exact⟨3,.aL⟩
  ·exact⟨0,vL trivial h4 rfl (qk _) (by rfl) (bS _)⟩
theorem Eh:(KI st t).length≤st.L.length:=by
 unfold KI O9;split
 ·exact Nat.zero_le _
 ·split
  ·exact vY _ _
  ·exact Nat.zero_le _
theorem fI.Qt{lo:Nat}{h:Heap}{v:AV}{l:List Int}(hr:fI lo h v l):∃k,ny (fun _=>True) h v (.fz k (ints l)):=by
 rcases hr with⟨rfl,rfl⟩|⟨b,h1,h2,rfl,h4⟩
 ·exact⟨3,.aL⟩
 ·exact⟨0,vL trivial h4 (m0 l).symm (qk l) (bI l).symm (bS l)⟩
theorem fI.ZI{lo:Nat}{h:Heap}{v:AV}{l:List Int}(hr:fI lo h v l){i:Nat}(hi:i<l.length)(x:Int):∃b,pV (.az 1) [v,.int .i64 ((i:Nat):Int)]=some (.ptr b (i*1))∧∃h',eV (.store 1) [.ptr b (i*1),.int .i64 x] h=some (.undef,h')∧fI lo h' v (l.set i x)∧h'.next=h.next∧∀c,c<lo→h'.get c=h.get c:=by
 rcases hr with⟨rfl,rfl⟩|⟨b,h1,h2,rfl,h4⟩
 ·simp at hi
 ·refine⟨b,aJ hi,_,bq (n:=1) (v:=.int .i64 x) h4 rfl (by rw[bI,Nat.mul_one];exact hi) rfl,.inr ⟨b,h1,h2,by rw[List.length_set],?_⟩,rfl,fun c hc=>aX (by omega)⟩;rw[ay];have:=ints_set hi x;exact congrArg (fun z=>some (dD.cells z true 1)) this
theorem Sx{lo:Nat}{h0:Heap}{v:AV}{N:Nat}{B:Nat}{Q:AX→Env→Heap→Prop}(hlo:h0.next≤lo)(hN:N≤1000):
  ∀(k i:Nat) (h:Heap) (l:List Int) (env:Env),N-i=k→i≤N→l.length=N→fI lo h v l→Fr h0 h []→dr env [(0,.ptr r 0),(1,.ptr m 0),(2,.int .i64 now),(17,.int .i64 t),(26,v),(27,.int .i64 ((i:Nat):Int))]→
  (∀(h':Heap) (e':Env),dr e' [(0,.ptr r 0),(1,.ptr m 0),(2,.int .i64 now),(17,.int .i64 t)]→Fr h0 h' []→Q (.exit 2) e' h')→
  VC fs ms B false (.loop iI) env h Q:=by
 intro k;induction k using Nat.strongRecOn with
 |ind k ih=>
 intro i h l env hk hi hl hr lq dF hQ;refine aH 6 _ dF ?_;refine dI (z:=true) ?_;conv=>whnf
 refine qc hr.read.1 ?_;conv=>whnf
 refine br (fun hc=>?_) (fun hc=>?_)<;>(try rw[hc])<;>(conv=>whnf)
 ·have hlt:i<l.length:=by have:=of_decide_eq_true hc;omega
  obtain⟨b,p1,h1,p2,p3,p4,p5⟩:=hr.ZI hlt (-1);refine⟨_,p1,?_⟩;conv=>whnf
  refine bW p2 fun uV e1=>?_;subst e1;conv=>whnf
  refine ih (N-(i+1)) (by omega) (i+1) uV _ _ rfl (by omega) (by rw[List.length_set];exact hl) p3 ⟨by have:=lq.next;omega,fun c hc _=>by rw[p5 c (by omega)];exact lq.keep c hc (by simp)⟩ ⟨rfl,rfl,rfl,rfl,rfl,aK (by omega),trivial⟩ hQ
 ·exact hQ h _ ⟨rfl,rfl,rfl,rfl,trivial⟩ lq
theorem NS(o:Op):pV (.neq (.cells [0,0,2])) [op o,op o]=some (.bool false):=by
 simp[pV,op,Ch,gu,uh]
theorem fT(a:Int):(a !=a)=false:=by simp
theorem fS(a:Bool):(a !=a)=false:=by simp
theorem not_bne(a:Bool):(!(a==a))=false:=by simp
theorem OW{h0:Heap}{B:Nat}{Q:AX→Env→Heap→Prop}(R0:RA h0 col r st)(M0:RC h0 (sh col) m st)(hL:st.L.length≤900)(hQ:∀h e,Fr h0 h []→Q (.exit 0) e h):
  ∀(k:Nat) (h:Heap) (t:Int) (env:Env),(5-t).toNat=k→-1≤t→Fr h0 h []→dr env [(0,.ptr r 0),(1,.ptr m 0),(2,.int .i64 now),(17,.int .i64 t)]→VC fs ms B false (.loop iH) env h Q:=by
 intro k;induction k using Nat.strongRecOn with
 |ind k ih=>
 intro h t env hk ht fr dF;refine aH 6 _ dF ?_;refine cS (aF true ?_);conv=>whnf
 refine br (fun hc=>?_) (fun hc=>?_)<;>(try rw[hc])<;>(conv=>whnf)
 rotate_left
 ·exact hQ _ _ fr
 have hlt:t<5:=of_decide_eq_true hc;refine bu (bx (aF true ?_));have R:=R0.nil fr;conv=>whnf
 obtain⟨nx,jS⟩:∃x,NP st t=x:=⟨_,rfl⟩;obtain⟨dl,TY⟩:∃x,MX st t=x:=⟨_,rfl⟩;refine N2 R fun h1 dy=>?_;rw[jS];conv=>whnf
 refine bW (bq aj rfl (Nat.le_refl _) rfl) fun h2 e2=>?_;have ey:Fr h0 h2 []:=by rw[e2];exact((fr.trans dy).new (x:=_)).ki (fr.trans dy).next
 have g2:h2.get h1.next=some (.cells (op nx.1).cells true 0):=by rw[e2];exact ay
 have n2:h1.next<h2.next:=by rw[e2];exact Nat.lt_succ_self _
 clear e2;generalize h1.next=b1 at*;conv=>whnf
 refine aF true ?_;conv=>whnf
 refine MF (M0.nil ey) fun h3 gx=>?_;rw[jS];conv=>whnf
 refine bW (bq aj rfl (Nat.le_refl _) rfl) fun h4 e4=>?_;have jL:Fr h2 h4 []:=by rw[e4];exact(gx.new (x:=_)).ki gx.next
 have g4:h4.get h3.next=some (.cells (op nx.1).cells true 0):=by rw[e4];exact ay
 have n4:h3.next<h4.next:=by rw[e4];exact Nat.lt_succ_self _
 clear e4;have KF:h4.get b1=some (.cells (op nx.1).cells true 0):=(jL.keep b1 n2 (by simp)).trans g2;have n2':=Nat.lt_of_lt_of_le n2 jL.next;generalize h3.next=b3 at*;conv=>whnf
 refine aF true ?_;conv=>whnf
 have CM:=ey.trans jL;refine NU (R0.nil CM) ?_;rw[TY];conv=>whnf
 refine aF true ?_;conv=>whnf
 refine MA (M0.nil CM) ?_;rw[TY];conv=>whnf
 refine aF true ?_;conv=>whnf
 refine RV (R0.nil CM) (by omega) fun h6 v hr CN=>?_;conv=>whnf
 have Pe:=CM.trans CN;refine aF true ?_;conv=>whnf
 refine⟨_,Ads.u0 (n:=3) ((CN.keep b1 n2' (by simp)).trans KF) (Nat.le_refl _),?_⟩;conv=>whnf
 refine⟨_,Ads.u0 (n:=3) ((CN.keep b3 n4 (by simp)).trans g4) (Nat.le_refl _),?_⟩;conv=>whnf
 refine qc (NS nx.1) ?_;conv=>whnf
 repeat(refine nE (by first|exact not_bne _|exact fT _|exact fS _) (fun hc=>?_);(try rw[hc]);conv=>whnf)
 refine Jo (R0.nil Pe) fun h8 Z2=>?_;have KE:=Pe.trans Z2;conv=>whnf
 repeat(refine nE (by first|exact not_bne _|exact fT _|exact fS _) (fun hc=>?_);(try rw[hc]);conv=>whnf)
 refine Hu (M0.nil KE) fun h9 Z3=>?_;have D5:=KE.trans Z3;conv=>whnf
 repeat(refine nE (by first|exact not_bne _|exact fT _|exact fS _) (fun hc=>?_);(try rw[hc]);conv=>whnf)
 refine NW (R0.nil D5) ?_;conv=>whnf
 repeat(refine nE (by first|exact not_bne _|exact fT _|exact fS _) (fun hc=>?_);(try rw[hc]);conv=>whnf)
 refine Jy (M0.nil D5) ?_;conv=>whnf
 repeat(refine nE (by first|exact not_bne _|exact fT _|exact fS _) (fun hc=>?_);(try rw[hc]);conv=>whnf)
 refine MB (M0.nil D5) (by omega) fun ha v2 f2 Z4=>?_;obtain⟨k2,f2⟩:=f2;have fra:=D5.trans Z4;have hrA:=hr.keep ((Z2.trans Z3).trans Z4);conv=>whnf
 repeat(refine nE (by first|exact not_bne _|exact fT _|exact fS _) (fun hc=>?_);(try rw[hc]);conv=>whnf)
 obtain⟨k1,f1⟩:=hrA.Qt;refine fQ (ug k1 k2 (KI st t) (by have:=Eh (st:=st) (t:=t);omega)) rfl (.cons f1 (.cons f2 .nil)) ?_;conv=>whnf
 repeat(refine nE (by first|exact not_bne _|exact fT _|exact fS _) (fun hc=>?_);(try rw[hc]);conv=>whnf)
 refine bu (aq (z:=true) ?_);conv=>whnf
 refine bx ?_;refine Sx (r:=r) (m:=m) (h0:=h0) (now:=now) (t:=t) (N:=(KI st t).length) (lo:=h4.next) CM.next (by have:=Eh (st:=st) (t:=t);omega) _ 0 ha _ _ rfl (Nat.zero_le _) rfl hrA fra ⟨rfl,rfl,rfl,rfl,rfl,rfl,trivial⟩ ?_;intro hb eb sY frb;show VC fs ms _ _ _ _ _ _;refine aH 6 _ sY (aq (z:=true) ?_);conv=>whnf
 refine ih (5-(t+1)).toNat (by omega) hb (t+1) _ rfl (by omega) frb ⟨rfl,rfl,rfl,?_,trivial⟩;show some (AV.int .i64 (IntKind.i64.wrap (t+1)))=some (AV.int .i64 (t+1));rw[IntWalk.i64_in _ (by omega)]
theorem Ah{b o n:Nat}(h:b<n)(x:Bool):(x||rK n [.ptr b o])=true:=by
 rw[rK,Dz,Nat.ble_eq_true_of_le h];simp[rK]
theorem OV{Q:AV→Heap→Prop}(R:RA h col r st)(M:RC h (sh col) m st)(hL:st.L.length≤900)(hQ:∀h',Fr h h' []→Q (.bool true) h'):VD fs ms 19 [.ptr r 0,.ptr m 0,.int .i64 now] h Q:=by
 refine bY (af:=U6) rfl (Nat.le_of_ble_eq_true rfl) ?_;conv=>whnf
 refine aF true ?_;conv=>whnf
 refine aF true ?_;conv=>whnf
 refine Sa R hL fun a b W=>?_;conv=>whnf
 refine aF true ?_;conv=>whnf
 refine EM M hL fun h1 a' b' W' dy=>?_;obtain⟨rfl,rfl⟩:=W.uniq W';conv=>whnf
 refine aF true ?_;conv=>whnf
 refine N3 (R.nil dy) fun c d e S=>?_;conv=>whnf
 refine aF true ?_;conv=>whnf
 refine BU (M.nil dy) fun c' d' e' S'=>?_;obtain⟨rfl,rfl,rfl⟩:=S.uniq S';conv=>whnf
 refine aF true ?_;conv=>whnf
 repeat(refine nE (by first|exact not_bne _|exact fT _|exact fS _) (fun hc=>?_);(try rw[hc]);conv=>whnf)
 refine On (R.nil dy) fun h2 v M1 hr hm hd hs Z1=>?_;have ey:=dy.trans Z1;conv=>whnf
 repeat(refine nE (by first|exact not_bne _|exact fT _|exact fS _) (fun hc=>?_);(try rw[hc]);conv=>whnf)
 have M1':=M.nil dy;obtain⟨s,q,J,tv,gv,ws,gs,Ti,e1,e2,e4⟩:=M1';have RB:=Ti.nil Z1;have he:∀(i:Nat) (j:Jb),st.j[i]?=some (some j)→0≤j.e:=fun i j hj=>(e4 i j hj).2;refine⟨_,aT RB.dB.get rfl,?_⟩;conv=>whnf
 repeat(refine nE (by first|exact not_bne _|exact fT _|exact fS _) (fun hc=>?_);(try rw[hc]);conv=>whnf)
 obtain⟨qb,es,op,MM,_⟩:=RB.z5;have hl4:(dQ st.j).length≤4:=by rw[tq,e1,wj,List.length_map,RB.tl];exact RB.n4
 refine EA MM hl4 fun h3 v3 hr3 gx=>?_;conv=>whnf
 repeat(refine nE (by first|exact not_bne _|exact fT _|exact fS _) (fun hc=>?_);(try rw[hc]);conv=>whnf)
 have hlen:=CF (dQ st.j) (dQ st.j).length;rw[FZ he hm hd hs] at hr;obtain⟨k1,f1⟩:=(hr.keep gx).Qt;obtain⟨k2,f2⟩:=hr3.Qt;refine fQ (ug k1 k2 (nl (dj (dQ st.j) (dQ st.j).length)) (by rw[mK];omega)) rfl (.cons f1 (.cons f2 .nil)) ?_;conv=>whnf
 repeat(refine nE (by first|exact not_bne _|exact fT _|exact fS _) (fun hc=>?_);(try rw[hc]);conv=>whnf)
 have jL:=ey.trans gx;have w1:∀o,fH.r .ck=fH.r o→rV o [.ptr m (0+2)] h1=some (.ptr q 0):=fun o ho=>by cases ho;exact aT Ti.dB.get rfl
 have w2:∀o,fH.r .ck=fH.r o→rV o [.ptr m (0+2)] h2=some (.ptr q 0):=fun o ho=>by cases ho;exact aT RB.dB.get rfl
 refine⟨iO (by(conv=>whnf);repeat' (first|exact trivial|exact aT Ti.dB.get rfl|exact Ah RB.dB.lt _|exact .inl ⟨rfl,w2⟩|exact .inl ⟨rfl,w1⟩|(exact⟨rfl,rfl,.inr ⟨_,_,rfl⟩⟩)|(refine⟨rfl,rfl,.inl ⟨rfl,fun o ho=>?_⟩⟩;cases ho;first|rfl|exact aT Ti.dB.get rfl|exact Ah RB.dB.lt _|exact .inl ⟨rfl,w2⟩|exact .inl ⟨rfl,w1⟩)|(exact⟨rfl,.inr ⟨_,_,rfl⟩⟩)|(refine⟨rfl,.inl ⟨rfl,fun i o hi ho=>?_⟩⟩;cases hi;cases ho;first|rfl|exact aT Ti.dB.get rfl|exact Ah RB.dB.lt _|exact .inl ⟨rfl,w2⟩|exact .inl ⟨rfl,w1⟩)|(refine And.intro (fun eM=>(Bool.false_ne_true eM).elim) ?_<;>conv=>whnf)|(refine And.intro (fun _=>?_) ?_<;>conv=>whnf)|(refine And.intro ?_ ?_<;>conv=>whnf))),?_⟩;conv=>whnf
 refine bu (aF true ?_);conv=>whnf
 refine bx ?_;refine OW (now:=now) (R.nil jL) (M.nil jL) hL ?_ _ h3 (-1) _ rfl (by omega) (Fr.refl _ _) ⟨rfl,rfl,rfl,rfl,trivial⟩;intro h5 e5 CM;show VC fs ms _ _ _ _ _ _;refine aH 0 [] trivial (aq (z:=true) ?_);conv=>whnf
 exact hQ h5 (jL.trans CM)
end
structure Do where
 k:Int
 t:Int
 a:Int
 kk:Nat
 ops:List Op
def A2(x:Do):AV:=.agg [.int .i64 x.k,.int .i64 x.t,.int .i64 x.a,.fz x.kk (ops x.ops)]
def HL(l:List Do):List AV:=l.map A2
theorem ND(l:List Do):(HL l).length=l.length:=List.length_map ..
theorem Qf(x:Do):(A2 x).cl=true:=by simp[A2,AV.cl,cD,nF]
theorem Qe(l:List Do):cD (HL l)=true:=pT (enc:=A2) Qf l
theorem Rp{l:List Do}{j k:Nat}(hj:j<l.length):pV (.az 4) [.fz k (HL l),.int .i64 (j:Nat)]=some (.fp (A2 l[j]).cells 0):=uX (enc:=A2) hj rfl
def HO(n:Nat)(L:List En):Prop:=L.length≤n∧∀t,(bz L t).length≤4
theorem HO.sub{n:Nat}{L L':List En}(h:HO n L)(s:L'.Sublist L):HO (n+1) L':=
 ⟨by have:=s.length_le;have:=h.1;omega,fun t=>Nat.le_trans ((s.filter fun x=>x.1==t).map Prod.snd).length_le (h.2 t)⟩
theorem HO.same{n:Nat}{L L':List En}(h:HO n L)(s:L'=L):HO (n+1) L':=h.sub (by rw[s];exact List.Sublist.refl _)
theorem yO(st:St)(t:Int)(f:Jb→Int×Jb):(sJ st t f).2.L=st.L:=by
 unfold sJ;split
 ·rfl
 ·split<;>rfl
theorem Sc(st:St)(t:Int)(l:List Op)(now:Int):(wM st t l now).2.L=st.L:=by
 unfold wM;split
 ·rfl
 ·split
  ·rfl
  ·split
   ·split
    ·rfl
    ·split<;>rfl
   ·rfl
theorem HO.lock{n:Nat}{st:St}{t x:Int}(h:HO n st.L):HO (n+1) (qN st t x).2.L:=by
 unfold qN;split
 ·exact h.same rfl
 ·split
  ·split
   ·exact h.same rfl
   ·split
    ·exact h.same rfl
    ·rename_i hz;have hz:fm st.T st.L t x=0:=by simpa using hz
     have h4:(bz st.L t).length<4:=by
      unfold fm at hz;split at hz
      ·rename_i ha;rw[hz] at ha;simp at ha
      split at hz
      ·cases hz
      split at hz
      ·cases hz
      split at hz
      ·cases hz
      ·rename_i hd;simp at hd;omega
     refine⟨by show(st.L++[(t,x)]).length≤n+1;rw[List.length_append];have:=h.1;simp;omega,fun u=>?_⟩;show(bz (st.L++[(t,x)]) u).length≤4;rw[sq,List.length_append];by_cases e:t=u
     ·subst e;simp[bz] at h4⊢;omega
     ·have:=h.2 u;have e1:bz [(t,x)] u=[]:=by simp[bz,e]
      rw[e1];simpa using this
  ·exact h.same rfl
theorem HO.unl{n:Nat}{st:St}{t:Int}(h:HO n st.L):HO (n+1) (xN st t).2.L:=by
 unfold xN;split
 ·exact h.same rfl
 ·split
  ·split
   ·exact h.same rfl
   ·exact h.sub (List.eraseIdx_sublist ..)
  ·exact h.same rfl
theorem HO.fin{n:Nat}{st:St}{t:Int}(h:HO n st.L):HO (n+1) (xx st t).2.L:=by
 unfold xx;split
 ·exact h.same rfl
 ·exact h.sub List.filter_sublist
section
variable {h h':Heap} {col aC:Nat→Nat} {r m:Nat} {st:St} {Q:AV→Heap→Prop} {t now:Int}
theorem qO(M:RC h (sh col) m st)(f:Kc h h' col aC vp):RC h' (sh aC) m st:=M.keep f.shf (by
 rintro n h1 h2 ⟨k,hk,rfl⟩;rcases hk with⟨a,b⟩|rfl<;>omega)
theorem PB(R:RA h col r st)(f:Kc h h' col aC DK):RA h' aC r st:=R.keep f (fun n h1 h2 h=>by have:=h.1;omega) (fun i hi h=>by have:=h.1;omega)
theorem Yp{x:Do}{N:Nat}(R:RA h col r st)(M:RC h (sh col) m st)(hO:HO N st.L)(hN:N≤900)(hk:x.kk=3→x.ops=[])(hl:x.ops.length<2^62)
  (hQ:∀h' aC st',RA h' aC r st'→RC h' (sh aC) m st'→HO (N+1) st'.L→Q (.bool true) h'):VD fs ms 18 [.ptr r 0,.ptr m 0,A2 x,.int .i64 t,.int .i64 now] h Q:=by
 have hL:st.L.length≤900:=Nat.le_trans hO.1 hN;have lq:Fr h (h.new (.cells (A2 x).cells true 0)) []:=(Fr.refl h []).new;have dy:Fr h (fh [h.next] (h.new (.cells (A2 x).cells true 0))) []:=zv (b:=h.next) lq (Nat.le_refl _);refine bY (af:=U5) rfl (Nat.le_of_ble_eq_true rfl) ?_;conv=>whnf
 refine aF true ?_;conv=>whnf
 refine aH 4 [(0,.ptr r 0),(1,.ptr m 0),(3,.int .i64 t),(4,.int .i64 now),(7,.ptr h.next 0),(10,.bool false)] ⟨rfl,rfl,rfl,rfl,rfl,rfl,trivial⟩ ?_;refine pL [h.next] (i:=7) (v':=.fp (A2 x).cells 0) rfl (.ptr' (by simp) aj (.clean (show cD (A2 x).cells=true by simp[A2,AV.cells,cD,AV.cl,nF]))) ?_;refine aH 4 [(0,.ptr r 0),(1,.ptr m 0),(3,.int .i64 t),(4,.int .i64 now),(7,.fp (A2 x).cells 0),(10,.bool false)] ⟨rfl,rfl,rfl,rfl,rfl,rfl,trivial⟩ ?_;generalize fh [h.next] _=h1 at*;have R1:=R.nil dy;have M1:=M.nil dy;refine aq (z:=true) ?_;conv=>whnf
 refine⟨.int .i64 x.k,rfl,?_⟩;conv=>whnf
 refine aR (zi x.k 10 (by decide) (by decide)) ?_;conv=>whnf
 generalize r6 x.k 10=z;have fin:∀{h2 h3:Heap} {iT:Nat→Nat} {c3:Nat→Nat} {st':St},RA h2 iT r st'→Kc h2 h3 (sh iT) c3 RK→RC h3 c3 m st'→HO (N+1) st'.L→Q (.bool true) h3:=by
  intro h2 h3 iT c3 st' R2 f3 M3 hO';obtain⟨Tu,rfl,f4⟩:=f3.un;exact hQ h3 Tu st' (PB R2 f4) M3 hO'
 have eI:∀(a:Int),(a==a)=true:=by simp
 have eB:∀(a:Bool),(a==a)=true:=by simp
 refine br (fun hc=>?_) (fun hc=>?_)<;>(try rw[hc])<;>(conv=>whnf)
 ·refine⟨.fz x.kk (ops x.ops),rfl,?_⟩;conv=>whnf
  refine RY R1 hk hl fun h2 iT R2 f2=>?_;conv=>whnf
  refine⟨.fz x.kk (ops x.ops),rfl,?_⟩;conv=>whnf
  refine Oa (qO M1 f2) hl fun h3 c3 M3 f3=>?_;have hq:=fin R2 f3 M3 (hO.same (Sc ..));conv=>whnf
  refine⟨iO (by(conv=>whnf);repeat' (first|exact trivial|(exact⟨rfl,rfl,.inr ⟨_,_,rfl⟩⟩)|(refine⟨rfl,rfl,.inl ⟨rfl,fun o ho=>?_⟩⟩;cases ho;first|rfl)|(exact⟨rfl,.inr ⟨_,_,rfl⟩⟩)|(refine⟨rfl,.inl ⟨rfl,fun i o hi ho=>?_⟩⟩;cases hi;cases ho;first|rfl)|(refine And.intro (fun eM=>(Bool.false_ne_true eM).elim) ?_<;>conv=>whnf)|(refine And.intro (fun _=>?_) ?_<;>conv=>whnf)|(refine And.intro ?_ ?_<;>conv=>whnf))),?_⟩;conv=>whnf
  rw[eI];exact hq
 refine br (fun hc=>?_) (fun hc=>?_)<;>(try rw[hc])<;>(conv=>whnf)
 ·refine RT R1 fun h2 iT R2 f2=>?_;conv=>whnf
  refine N7 (qO M1 f2) fun h3 c3 M3 f3=>?_;have hq:=fin R2 f3 M3 (hO.same (yO ..));conv=>whnf
  rw[eI];exact hq
 refine br (fun hc=>?_) (fun hc=>?_)<;>(try rw[hc])<;>(conv=>whnf)
 ·refine Jr R1 fun h2 iT R2 f2=>?_;conv=>whnf
  refine EL (qO M1 f2) fun h3 c3 M3 f3=>?_;have hq:=fin R2 f3 M3 (hO.same (yO ..));conv=>whnf
  rw[eI];exact hq
 refine br (fun hc=>?_) (fun hc=>?_)<;>(try rw[hc])<;>(conv=>whnf)
 ·refine Jr R1 fun h2 iT R2 f2=>?_;conv=>whnf
  refine EL (qO M1 f2) fun h3 c3 M3 f3=>?_;have hq:=fin R2 f3 M3 (hO.same (yO ..));conv=>whnf
  rw[eI];exact hq
 refine br (fun hc=>?_) (fun hc=>?_)<;>(try rw[hc])<;>(conv=>whnf)
 ·refine⟨.int .i64 x.a,rfl,?_⟩;conv=>whnf
  refine N0 R1 hL fun h2 iT R2 f2=>?_;conv=>whnf
  refine⟨.int .i64 x.a,rfl,?_⟩;conv=>whnf
  refine JD (qO M1 f2) hL (hO.2 t) fun h3 c3 M3 f3=>?_;have hq:=fin R2 f3 M3 hO.lock;conv=>whnf
  refine⟨iO (by(conv=>whnf);repeat' (first|exact trivial|(exact⟨rfl,rfl,.inr ⟨_,_,rfl⟩⟩)|(refine⟨rfl,rfl,.inl ⟨rfl,fun o ho=>?_⟩⟩;cases ho;first|rfl)|(exact⟨rfl,.inr ⟨_,_,rfl⟩⟩)|(refine⟨rfl,.inl ⟨rfl,fun i o hi ho=>?_⟩⟩;cases hi;cases ho;first|rfl)|(refine And.intro (fun eM=>(Bool.false_ne_true eM).elim) ?_<;>conv=>whnf)|(refine And.intro (fun _=>?_) ?_<;>conv=>whnf)|(refine And.intro ?_ ?_<;>conv=>whnf))),?_⟩;conv=>whnf
  rw[eI];exact hq
 refine br (fun hc=>?_) (fun hc=>?_)<;>(try rw[hc])<;>(conv=>whnf)
 ·refine RZ R1 hL fun h2 iT R2 f2=>?_;conv=>whnf
  refine Ob (qO M1 f2) hL fun h3 c3 M3 f3=>?_;have hq:=fin R2 f3 M3 hO.unl;conv=>whnf
  rw[eI];exact hq
 refine br (fun hc=>?_) (fun hc=>?_)<;>(try rw[hc])<;>(conv=>whnf)
 ·refine RR R1 fun h2 iT R2 f2=>?_;conv=>whnf
  refine N6 (qO M1 f2) fun h3 c3 M3 f3=>?_;have hq:=fin R2 f3 M3 (hO.same (yO ..));conv=>whnf
  rw[eI];exact hq
 refine br (fun hc=>?_) (fun hc=>?_)<;>(try rw[hc])<;>(conv=>whnf)
 ·refine NY R1 fun h2 iT R2 f2=>?_;conv=>whnf
  refine JC (qO M1 f2) fun h3 c3 M3 f3=>?_;have hq:=fin R2 f3 M3 (hO.same (yO ..));conv=>whnf
  rw[eI];exact hq
 refine br (fun hc=>?_) (fun hc=>?_)<;>(try rw[hc])<;>(conv=>whnf)
 ·refine NX R1 fun h2 iT R2 f2=>?_;conv=>whnf
  refine Jz (qO M1 f2) fun h3 c3 M3 f3=>?_;have hq:=fin R2 f3 M3 (hO.same (yO ..));conv=>whnf
  rw[eI];exact hq
 refine⟨.int .i64 x.a,rfl,?_⟩;conv=>whnf
 refine⟨_,EN _ _ (by decide),?_⟩;conv=>whnf
 refine br (fun hc=>?_) (fun hc=>?_)<;>(try rw[hc])<;>(conv=>whnf)
 ·exact hQ _ _ st R1 M1 (hO.same rfl)
 ·refine RU R1 hL fun h2 iT R2 f2=>?_;conv=>whnf
  refine N8 (qO M1 f2) hL fun h3 c3 M3 f3=>?_;have hq:=fin R2 f3 M3 hO.fin;conv=>whnf
  rw[eB];exact hq
theorem NZ{kl B:Nat}{l:List Do}{Q:AX→Env→Heap→Prop}(hl:l.length<2^62)(hk:∀x∈l,(x.kk=3→x.ops=[])∧x.ops.length<2^62)(hQ:∀e g,Q (.exit 0) e g):
  ∀(k i:Nat) (J:Int) (h:Heap) (col:Nat→Nat) (st:St) (now:Int) (env:Env),80-i=k→i≤80→J=((i:Nat):Int)→RA h col r st→RC h (sh col) m st→HO i st.L→0≤now→now≤9*i→
   dr env [(1,.fz kl (HL l)),(5,.ptr r 0),(7,.ptr m 0),(8,.int .i64 0),(9,.int .i64 now),(10,.int .i64 J)]→VC fs ms B false (.loop fB) env h Q:=by
 intro k;induction k using Nat.strongRecOn with
 |ind k ih=>
 intro i J h col st now env hki hi hJ R M hO hn0 hn9 dF;have Pq:decide (J<(((HL l).length:Nat):Int))=decide (i<l.length):=by rw[ND,hJ];simp
 refine aH 5 _ dF ?_;refine cS (aF true ?_);cases c:decide (i<l.length) with
 |false=>
  rw[c] at Pq;conv=>whnf
  refine nE (Pq) (fun hc=>?_)
  (try rw[hc])
  conv=>whnf
  exact hQ _ _
 |true=>
 rw[c] at Pq;have hlt:i<l.length:=of_decide_eq_true c;conv=>whnf
 refine qt (Pq) (fun hc=>?_)
 (try rw[hc])
 conv=>whnf
 refine br (fun hc=>?_) (fun hc=>?_)<;>(try rw[hc])<;>(conv=>whnf)
 rotate_left
 ·exact hQ _ _
 have hi8:i<80:=by have:=of_decide_eq_true hc;omega
 obtain⟨x,hx⟩:∃x,x=l[i]:=⟨_,rfl⟩;have s6:pV (.az 4) [.fz kl (HL l),.int .i64 J]=some (.fp (A2 x).cells 0):=by rw[hx,hJ];exact Rp hlt
 obtain⟨xC,hk2⟩:=hk x (by rw[hx];exact List.getElem_mem _);clear hx;have hL:st.L.length≤900:=by have:=hO.1;omega
 refine bu (bx (aF true ?_));conv=>whnf
 refine⟨_,s6,?_⟩;conv=>whnf
 refine⟨.int .i64 x.t,rfl,?_⟩;conv=>whnf
 refine bu (VC.mono (Q:=fun y e g=>y=.normal∧∃t,RA g col r st∧RC g (sh col) m st∧dr e [(1,.fz kl (HL l)),(5,.ptr r 0),(7,.ptr m 0),(8,.int .i64 0),(9,.int .i64 now),(10,.int .i64 J),(11,.int .i64 t)]) ?_ ?_)
 ·refine aq (z:=true) ?_;conv=>whnf
  refine br (fun hc=>?_) (fun hc=>?_)<;>(try rw[hc])<;>(conv=>whnf)
  ·refine EM M hL fun h' a b _ fr=>?_;conv=>whnf
   exact⟨rfl,a,R.nil fr,M.nil fr,rfl,rfl,rfl,rfl,rfl,rfl,rfl,trivial⟩
  ·exact⟨rfl,x.t,R,M,rfl,rfl,rfl,rfl,rfl,rfl,rfl,trivial⟩
 clear R M;rintro _ e g ⟨rfl,t,R,M,he⟩;show VC fs ms _ _ _ _ _ _;refine aH 5 _ he ?_;clear he;refine bu (VC.mono (Q:=fun y e g'=>y=.normal∧g'=g∧∃Jh,0≤Jh∧Jh≤now+9∧dr e [(1,.fz kl (HL l)),(5,.ptr r 0),(7,.ptr m 0),(8,.int .i64 0),(9,.int .i64 Jh),(10,.int .i64 J),(11,.int .i64 t)]) ?_ ?_)
 ·refine aq (z:=true) ?_;conv=>whnf
  refine⟨_,s6,?_⟩;conv=>whnf
  refine⟨.int .i64 x.k,rfl,?_⟩;conv=>whnf
  refine aR (zi x.k 10 (by decide) (by decide)) ?_;conv=>whnf
  refine br (fun hc=>?_) (fun hc=>?_)<;>(try rw[hc])<;>(conv=>whnf)
  ·refine⟨_,s6,?_⟩;conv=>whnf
   refine⟨.int .i64 x.a,rfl,?_⟩;conv=>whnf
   refine aR (zi x.a 9 (by decide) (by decide)) ?_;have hb:=Hz (i:=x.a) (n:=9) (by decide);have hw:some (AV.int .i64 (IntKind.i64.wrap (now+r6 x.a 9)))=some (AV.int .i64 (now+r6 x.a 9)):=by rw[IntWalk.i64_in _ (by omega)]
   conv=>whnf
   exact⟨rfl,rfl,now+r6 x.a 9,by omega,by omega,rfl,rfl,rfl,rfl,hw,rfl,rfl,trivial⟩
  ·exact⟨rfl,rfl,now,hn0,by omega,rfl,rfl,rfl,rfl,rfl,rfl,rfl,trivial⟩
 rintro _ e g' ⟨rfl,rfl,Jh,ha,hb,he⟩;show VC fs ms _ _ _ _ _ _;refine aH 5 _ he ?_;clear he;refine aq (z:=true) ?_;conv=>whnf
 refine⟨_,s6,?_⟩;conv=>whnf
 refine⟨A2 x,rfl,?_⟩;conv=>whnf
 refine Yp R M hO (by omega) xC hk2 fun h1 AZ WG R1 M1 Z8=>?_;conv=>whnf
 refine OV R1 M1 (by have:=Z8.1;omega) fun h2 ey=>?_;conv=>whnf
 have hw:some (AV.int .i64 (IntKind.i64.wrap (J+1)))=some (AV.int .i64 (J+1)):=by rw[IntWalk.i64_in _ (by omega)]
 refine aq (z:=true) ?_;conv=>whnf
 refine ih (80-(i+1)) (by omega) (i+1) (J+1) h2 AZ WG Jh _ rfl (by omega) (by omega) (R1.nil ey) (M1.nil ey) Z8 ha (by omega) ?_;exact⟨rfl,rfl,rfl,rfl,rfl,hw,trivial⟩
end
theorem B1(kt kl:Nat)(T:List Tk)(l:List Do)(ht:kt=3→T=[])(hT:T.length≤17592186044416)(hl:l.length<2^62)(hk:∀x∈l,(x.kk=3→x.ops=[])∧x.ops.length<2^62):
  PC fs ms 5 [.fz kt (eP T),.fz kl (HL l)] (.bool true):=by
 refine cr (by simp[cD,AV.cl,bF,Qe]) rfl ?_;refine bY (af:=C5) rfl (Nat.le_of_ble_eq_true rfl) ?_;generalize hQ:(fun(v:AV) (_:Heap)=>v=.bool true)=Q;have hc0:=CE T;conv=>whnf
 refine aF true ?_;conv=>whnf
 refine aF true ?_;conv=>whnf
 cases hok:cj T with
 |false=>
  rw[hok] at hc0;have Bd:dA T (List.replicate T.length 0)=2:=hc0;refine Ab (col:=fun _=>0) kt T ht hT (fun _ h1 _=>?_) (fun h=>by rw[hok] at h;cases h);rw[Bd];conv=>whnf
  refine aF true ?_;conv=>whnf
  refine EK (col:=fun _=>0) kt (by omega) (fun _=>?_) (fun h=>by rw[hok] at h;cases h);conv=>whnf
  refine aF true ?_;conv=>whnf
  refine aF true ?_;conv=>whnf
  refine bu (aF true ?_);conv=>whnf
  refine bx ?_;refine aH 5 [(1,.fz kl (HL l)),(8,.int .i64 2),(10,.int .i64 0)] ⟨rfl,rfl,rfl,trivial⟩ ?_;refine dI (z:=true) ?_;conv=>whnf
  refine br (fun hc=>?_) (fun hc=>?_)<;>(try rw[hc])<;>(conv=>whnf);all_goals
   show VC fs ms _ _ _ _ _ _;refine aH 0 [] trivial (aq (z:=true) ?_);conv=>whnf
   refine aR y7 ?_;conv=>whnf
   subst hQ;rfl
 |true=>
  rw[hok] at hc0;have Bd:dA T (List.replicate T.length 0)=0:=hc0;refine Ab (col:=fun _=>0) kt T ht hT (fun hn=>(hn Bd).elim) (fun _ h1 AZ r R _=>?_);conv=>whnf
  refine aF true ?_;conv=>whnf
  refine EK (col:=sh AZ) kt (by omega) (fun h=>by rw[hok] at h;cases h) (fun _ h2 c2 m M f=>?_);obtain⟨iT,rfl,f4⟩:=(f.wk (K':=RK) fun _ h=>h.elim).un;have R2:=PB R f4;conv=>whnf
  refine aF true ?_;conv=>whnf
  refine aF true ?_;conv=>whnf
  refine bu (aF true ?_);conv=>whnf
  refine bx ?_;refine NZ (kl:=kl) hl hk ?_ 80 0 0 h2 iT _ 0 _ rfl (by omega) rfl R2 M ⟨Nat.zero_le _,fun _=>Nat.zero_le _⟩ (Int.le_refl _) (Int.le_refl _) ⟨rfl,rfl,rfl,rfl,rfl,rfl,trivial⟩;intro e g;show VC fs ms _ _ _ _ _ _;refine aH 0 [] trivial (aq (z:=true) ?_);conv=>whnf
  refine aR y7 ?_;conv=>whnf
  subst hQ;rfl
end Ir
end Go.Proofs.YtnlcabhfkpafmaaGreat
