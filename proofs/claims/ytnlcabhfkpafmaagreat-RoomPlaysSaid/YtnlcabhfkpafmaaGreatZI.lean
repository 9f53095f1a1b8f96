/-
  Room: who has the processor alone; who goes on; the jobs. Room: what changes the document's room: its jobs. Room: the document's Lock and Unlock, End, Release. Room: the document's End, Release. Room: the document's New. Room: what both rooms answer of a task; do both stand alike? Room: a call of both; RoomPlays.
-/
import Derived.Test.YtnlcabhfkpafmaaGreatZJ
import Derived.Test.YtnlcabhfkpafmaaGreatZC
import Derived.Test.YtnlcabhfkpafmaaGreatZG
set_option maxRecDepth 100000
set_option linter.unusedSimpArgs false
set_option linter.unusedVariables false
set_option smartUnfolding false
namespace Go.Proofs.YtnlcabhfkpafmaaGreat
open Go Ads
namespace Ir
def Ay(st:St)(a s:Int)(b:Bool):Prop:=((∀(i:Nat) (j:Jb),st.j[i]?=some (some j)→j.s<2)∧a=0∧s=0∧b=false)∨
 ∃(i:Nat) (j:Jb),st.j[i]?=some (some j)∧2≤j.s∧(∀(m:Nat) (j':Jb),m<i→st.j[m]?=some (some j')→j'.s<2)∧a=((i:Nat):Int)∧s=j.s∧b=true
theorem Ay.uniq{st:St}{a s a' s':Int}{b b':Bool}(h:Ay st a s b)(h':Ay st a' s' b'):a=a'∧s=s'∧b=b':=by
 rcases h with⟨n1,rfl,rfl,rfl⟩|⟨i,j,hj,hs,hm,rfl,rfl,rfl⟩<;>rcases h' with⟨n2,rfl,rfl,rfl⟩|⟨i',j',hj',hs',hm',rfl,rfl,rfl⟩
 ·exact⟨rfl,rfl,rfl⟩
 ·have:=n1 i' j' hj';omega
 ·have:=n2 i j hj;omega
 ·have e:i=i':=by
   rcases Nat.lt_trichotomy i i' with h|h|h
   ·have:=hm' i j h hj;omega
   ·exact h
   ·have:=hm i' j' h hj';omega
  subst e;rw[hj] at hj';cases hj'
  exact⟨rfl,rfl,rfl⟩
def Hf(st:St)(a:Int)(b:Bool):Prop:=(∃(i:Nat) (j:Jb),st.j[i]?=some (some j)∧2≤j.s∧(∀(m:Nat) (j':Jb),m<i→st.j[m]?=some (some j')→j'.s<2)∧a=((i:Nat):Int)∧b=true)∨
 ((∀(i:Nat) (j:Jb),st.j[i]?≠some (some j))∧a=0∧b=false)∨
 ((∀(i:Nat) (j:Jb),st.j[i]?=some (some j)→j.s<2)∧∃(i:Nat) (j:Jb),O2 st i j∧((j.g=true∨lvl st.T i>iy st.T st.L)∧a=((i:Nat):Int)∧b=true∨(j.g=false∧¬lvl st.T i>iy st.T st.L)∧a=(qv st.L).1∧b=(qv st.L).2))
theorem O2.uniq{st:St}{i i':Nat}{j j':Jb}(h:O2 st i j)(h':O2 st i' j'):i=i'∧j=j':=by
 have h1:=h.2 i' j' h'.1;have h2:=h'.2 i j h.1;rw[mE] at h1 h2;have e:i=i':=by simp only at h1 h2;omega
 subst e;have:=h.1;rw[h'.1] at this;cases this
 exact⟨rfl,rfl⟩
theorem Hf.uniq{st:St}{a a':Int}{b b':Bool}(h:Hf st a b)(h':Hf st a' b'):a=a'∧b=b':=by
 rcases h with⟨i,j,hj,hs,hm,rfl,rfl⟩|⟨n1,rfl,rfl⟩|⟨n1,i,j,F,hc⟩<;>rcases h' with⟨i',j',hj',hs',hm',rfl,rfl⟩|⟨n2,rfl,rfl⟩|⟨n2,i',j',F',fV⟩
 ·have e:i=i':=by
   rcases Nat.lt_trichotomy i i' with h|h|h
   ·have:=hm' i j h hj;omega
   ·exact h
   ·have:=hm i' j' h hj';omega
  subst e;exact⟨rfl,rfl⟩
 ·exact absurd hj (n2 i j)
 ·have:=n2 i j hj;omega
 ·exact absurd hj' (n1 i' j')
 ·exact⟨rfl,rfl⟩
 ·exact absurd F'.1 (n1 i' j')
 ·have:=n1 i' j' hj';omega
 ·exact absurd F.1 (n2 i j)
 ·obtain⟨rfl,rfl⟩:=F.uniq F';rcases hc with⟨c1,rfl,rfl⟩|⟨⟨c1,c2⟩,rfl,rfl⟩<;>rcases fV with⟨d1,rfl,rfl⟩|⟨⟨d1,d2⟩,rfl,rfl⟩
  ·exact⟨rfl,rfl⟩
  ·rcases c1 with c|c
   ·rw[c] at d1;cases d1
   ·exact absurd c d2
  ·rcases d1 with d|d
   ·rw[d] at c1;cases c1
   ·exact absurd d c2
  ·exact⟨rfl,rfl⟩
section
variable {h h':Heap} {col aB:Nat→Nat} {r m s q J:Nat} {tv gv:AV} {D:List Int} {ws:Ws} {gs:List (Nat×Int)} {T:List Tk} {L:List En} {st:St} {Q:AV→Heap→Prop} {t:Int}
theorem N5(R:RA h col r st)(hQ:∀a s b,Ay st a s b→Q (.cn [.int .i64 a,.int .i64 s,.bool b]) h):VD fs ms 30 [.ptr r 0] h Q:=
 EW R (fun hn=>hQ _ _ _ (.inl ⟨hn,rfl,rfl,rfl⟩)) fun i j hj hs hm=>hQ _ _ _ (.inr ⟨i,j,hj,hs,hm,rfl,rfl,rfl⟩)
theorem Sb(R:RA h col r st)(hL:st.L.length≤900)(hQ:∀a b,Hf st a b→Q (.cn [.int .i64 a,.bool b]) h):VD fs ms 15 [.ptr r 0] h Q:=
 Ad R hL (fun i j hj hs hm=>hQ _ _ (.inl ⟨i,j,hj,hs,hm,rfl,rfl⟩)) (fun hn=>hQ _ _ (.inr (.inl ⟨hn,rfl,rfl⟩))) (fun hn i j F hc=>hQ _ _ (.inr (.inr ⟨hn,i,j,F,.inl ⟨hc,rfl,rfl⟩⟩)))
  fun hn i j F h1 h2=>hQ _ _ (.inr (.inr ⟨hn,i,j,F,.inr ⟨⟨h1,h2⟩,rfl,rfl⟩⟩))
theorem CD{js:List (Option Jb)}{i:Nat}:gD (dQ js) i=match js[i]? with|some (some j)=>j.e|some none=>-1|none=>0:=by
 rw[gD,List.getD_eq_getElem?_getD,dQ,List.getElem?_map];cases js[i]? with
 |none=>rfl
 |some o=>cases o<;>rfl
theorem sg{js:List (Option Jb)}{i:Nat}{j:Jb}(h:js[i]?=some (some j)):gD (dQ js) i=j.e:=by rw[CD,h]
theorem tn(js:List (Option Jb)):(dQ js).length=js.length:=List.length_map ..
theorem zq{js:List (Option Jb)}(he:∀(i:Nat) (j:Jb),js[i]?=some (some j)→0≤j.e){x:Nat}:x∈dj (dQ js) (dQ js).length↔∃j,js[x]?=some (some j):=by
 rw[vC,CD,tn];constructor
 ·rintro⟨h1,h2⟩;rw[List.getElem?_eq_getElem h1] at h2⊢;cases hc:js[x] with
  |none=>rw[hc] at h2;simp at h2
  |some j=>exact⟨j,rfl⟩
 ·rintro⟨j,hj⟩;rw[hj];exact⟨(List.getElem?_eq_some_iff.1 hj).1,he x j hj⟩
theorem Qk{st:St}(he:∀(i:Nat) (j:Jb),st.j[i]?=some (some j)→0≤j.e){x:Nat}{l:List Nat}(hd:dj (dQ st.j) (dQ st.j).length=x::l):∃j,O2 st x j∧gD (dQ st.j) x=j.e:=by
 obtain⟨j,hj⟩:=(zq he).1 (show x∈dj (dQ st.j) (dQ st.j).length by rw[hd];simp);have hg:=sg hj;refine⟨j,⟨hj,fun i' j' hj'=>?_⟩,hg⟩;have hs:=CH (dQ st.j) (dQ st.j).length;have hm:=(zq he).2 ⟨j',hj'⟩;rw[hd] at hs hm;rw[List.pairwise_cons] at hs;have hg':=sg hj';rw[mE];rcases List.mem_cons.1 hm with rfl|hm
 ·rw[hj] at hj';cases hj'
  exact .inr ⟨rfl,Nat.le_refl _⟩
 ·have:=hs.1 i' hm;unfold rD at this;rw[hg,hg'] at this;simp only;omega
theorem Ql{js:List (Option Jb)}(he:∀(i:Nat) (j:Jb),js[i]?=some (some j)→0≤j.e)(hd:dj (dQ js) (dQ js).length=[]):∀(i:Nat) (j:Jb),js[i]?≠some (some j):=by
 intro i j hj;have:=(zq he).2 ⟨j,hj⟩;rw[hd] at this;simp at this
theorem FZ{js:List (Option Jb)}{M:List Id}(he:∀(i:Nat) (j:Jb),js[i]?=some (some j)→0≤j.e)(hm:∀y:Id,y∈M↔∃j,js[y.1]?=some (some j)∧y.2=j.e)(hd:PR M)(hs:He M 0 M.length):FX M=nl (dj (dQ js) (dQ js).length):=by
 have hM:Wj M (dQ js):=by
  refine⟨fun y hy=>?_,fun i hi h0=>?_⟩
  ·obtain⟨j,hj,e⟩:=(hm y).1 hy;rw[tn,sg hj,e];exact⟨(List.getElem?_eq_some_iff.1 hj).1,rfl,he _ _ hj⟩
  ·obtain⟨j,hj⟩:=(zq he).1 ((vC _ _ i).2 ⟨hi,h0⟩);exact(hm _).2 ⟨j,hj,sg hj⟩
 rw[hM.jobs ⟨rfl,fun _=>Iff.rfl,hd,hs⟩,MW]
theorem JH(R:qy h col m s q J tv gv D ws gs T L){B:Nat}{Q:AX→Env→Heap→Prop}(hQ:(∀(i:Nat) (j:Jb),(wj ws)[i]?=some (some j)→j.s<2)→∀e',Q (.exit 0) e' h)
  (hR:∀(i:Nat) (j:Jb) e',(wj ws)[i]?=some (some j)→2≤j.s→(∀(n:Nat) (j':Jb),n<i→(wj ws)[n]?=some (some j')→j'.s<2)→dr e' [(2,.int .i64 ((i:Nat):Int)),(3,.int .i64 j.s),(4,.bool true)]→Q .ret e' h):
  ∀(k i:Nat) (env:Env),ws.length-i=k→i≤ws.length→(∀(n:Nat) (j:Jb),n<i→(wj ws)[n]?=some (some j)→j.s<2)→dr env [(0,.ptr m 0),(5,.int .i64 ((i:Nat):Int))]→VC fs ms B false (.loop fC) env h Q:=by
 have h4:ws.length≤4:=by rw[R.tl];exact R.n4
 intro k;induction k with
 |zero=>
  intro i env hk hi hno dF;have he:i=ws.length:=by omega
  refine aG 5 _ dF ?_;refine cS (an (z:=true) ?_);conv=>whnf
  repeat(first|(refine⟨_,aS R.dB.get rfl,?_⟩;conv=>whnf))
  refine nC (by simp;omega) (fun hc=>?_)
  (try rw[hc])
  conv=>whnf
  exact hQ (fun n j hj=>hno n j (by have:=(List.getElem?_eq_some_iff.1 hj).1;rw[wj,List.length_map] at this;omega) hj) _
 |succ k ih=>
  intro i env hk hi hno dF;have hlt:i<ws.length:=by omega
  have hw:ws[i]?=some ws[i]:=List.getElem?_eq_getElem hlt;refine aG 5 _ dF ?_;refine cS (aE true ?_);conv=>whnf
  repeat(first|(refine⟨_,aS R.dB.get rfl,?_⟩;conv=>whnf))
  refine qq (by simp;omega) (fun hc=>?_)
  (try rw[hc])
  conv=>whnf
  refine bt (bw (aE true ?_));conv=>whnf
  cases TP:ws[i] with
  |none=>
   rw[TP] at hw;have hg:((ws.map (Option.map Prod.fst)).map xF)[i*1]?=some (xF none):=by rw[Nat.mul_one,List.getElem?_map,List.getElem?_map,hw];rfl
   repeat(first|(refine⟨_,aS R.dB.get rfl,?_⟩;conv=>whnf)|(refine⟨_,aH hlt,?_⟩;conv=>whnf)|(refine⟨_,aS R.ko.get hg,?_⟩;conv=>whnf))
   refine an (z:=true) ?_;conv=>whnf
   refine an (z:=true) ?_;conv=>whnf
   refine ih (i+1) _ (by omega) (by omega) (fun n j hn hj=>?_) ⟨rfl,aJ (by omega),trivial⟩;by_cases e:n=i
   ·subst e;rw[sV hw] at hj;cases hj
   ·exact hno n j (by omega) hj
  |some w=>
   rw[TP] at hw;obtain⟨p,C,o,v,JJ,_⟩:=R.mN i _ hw;repeat(first|(refine⟨_,aS R.dB.get rfl,?_⟩;conv=>whnf)|(refine⟨_,aH hlt,?_⟩;conv=>whnf)|(refine⟨_,aS R.ko.get (fN hw),?_⟩;conv=>whnf)|(refine⟨_,aS JJ.st rfl,?_⟩;conv=>whnf))
   refine gW ?_;conv=>whnf
   refine br (fun hc=>?_) (fun hc=>?_)<;>(try rw[hc])<;>(conv=>whnf)
   ·refine an (z:=true) ?_;conv=>whnf
    repeat(first|(refine⟨_,aS R.dB.get rfl,?_⟩;conv=>whnf)|(refine⟨_,aH hlt,?_⟩;conv=>whnf)|(refine⟨_,aS R.ko.get (fN hw),?_⟩;conv=>whnf)|(refine⟨_,aS JJ.st rfl,?_⟩;conv=>whnf))
    exact hR i w.2 _ (dn hw) (of_decide_eq_true hc) hno ⟨rfl,rfl,rfl,trivial⟩
   ·have hsl:=of_decide_eq_false hc;refine an (z:=true) ?_;conv=>whnf
    refine an (z:=true) ?_;conv=>whnf
    refine ih (i+1) _ (by omega) (by omega) (fun n j hn hj=>?_) ⟨rfl,aJ (by omega),trivial⟩;by_cases e:n=i
    ·subst e;rw[dn hw] at hj;cases hj
     show w.2.s<2;omega
    ·exact hno n j (by omega) hj
theorem BU(R:RC h col m st)(hQ:∀a s b,Ay st a s b→Q (.cn [.int .i64 a,.int .i64 s,.bool b]) h):VD fs ms 59 [.ptr m 0] h Q:=by
 obtain⟨s,q,J,tv,gv,ws,gs,R,e1,e2,e4⟩:=R;refine bX (af:=VF) rfl (yB rfl) ?_;conv=>whnf
 refine aE true ?_;conv=>whnf
 refine bt (aE true ?_);conv=>whnf
 refine bw ?_;refine JH R (fun hn e'=>?_) (fun i j e' hj hs hm he=>?_) ws.length 0 _ rfl (Nat.zero_le _) (fun n j hn=>by omega) ⟨rfl,rfl,trivial⟩
 ·show VC fs ms _ false _ _ _ _;refine aG 0 [] trivial (an (z:=true) ?_);conv=>whnf
  rw[←e1] at hn;exact hQ _ _ _ (.inl ⟨hn,rfl,rfl,rfl⟩)
 ·rw[←e1] at hj hm;exact vE he.1 he.2.1 he.2.2.1 (hQ _ _ _ (.inr ⟨i,j,hj,hs,hm,rfl,rfl,rfl⟩))
theorem EM(R:RC h col m st)(hL:st.L.length≤900)(hQ:∀h' a b,Hf st a b→Fr h h' []→Q (.cn [.int .i64 a,.bool b]) h'):VD fs ms 17 [.ptr m 0] h Q:=by
 have R0:=R;obtain⟨s,q,J,tv,gv,ws,gs,R,e1,e2,e4⟩:=R;have n4:=R.n4;have he:∀(i:Nat) (j:Jb),st.j[i]?=some (some j)→0≤j.e:=fun i j hj=>(e4 i j hj).2;refine aj (af:=U2) true rfl (yB rfl) ?_;conv=>whnf
 refine BU R0 fun a sx b hS=>?_;conv=>whnf
 rcases hS with⟨hn,rfl,rfl,rfl⟩|⟨i,j,hj,hs,hm,rfl,rfl,rfl⟩
 rotate_left
 ·conv=>whnf
  exact hQ h _ _ (.inl ⟨i,j,hj,hs,hm,rfl,rfl⟩) (Fr.refl _ _)
 conv=>whnf
 repeat(first|(refine⟨_,aS R.dB.get rfl,?_⟩;conv=>whnf))
 obtain⟨qb,es,op,M,_⟩:=R.z5;refine Jd M (by rw[tn,e1,wj,List.length_map,R.tl];exact n4) (fun h1 hd fr=>?_) (fun h1 x l hd fr=>?_)
 ·conv=>whnf
  exact hQ h1 _ _ (.inr (.inl ⟨Ql he hd,rfl,rfl⟩)) fr
 obtain⟨j,F,hg⟩:=Qk he hd;have R1:=R.nil fr;obtain⟨b,hw⟩:=Ar (by rw[←e1];exact F.1);obtain⟨p,C,o,v,JJ,_⟩:=R1.mN x _ hw;obtain⟨WE,v2,S,_⟩:=R1.stk;obtain⟨kT,hf⟩:=R1.An.1.SG;conv=>whnf
 repeat(first|(refine⟨_,aS R1.dB.get rfl,?_⟩;conv=>whnf)|(refine⟨_,aH (List.getElem?_eq_some_iff.1 hw).1,?_⟩;conv=>whnf)|(refine⟨_,aS R1.ko.get (fN hw),?_⟩;conv=>whnf)|(refine⟨_,aS JJ.st rfl,?_⟩;conv=>whnf))
 refine br (fun hc=>?_) (fun hc=>?_)<;>(try rw[hc])<;>(conv=>whnf)
 ·refine⟨iM (by(conv=>whnf);repeat' (first|exact trivial|(exact⟨rfl,rfl,.inr ⟨_,_,rfl⟩⟩)|(refine⟨rfl,rfl,.inl ⟨rfl,fun o ho=>?_⟩⟩;cases ho;first|rfl)|(exact⟨rfl,.inr ⟨_,_,rfl⟩⟩)|(refine⟨rfl,.inl ⟨rfl,fun i o hi ho=>?_⟩⟩;cases hi;cases ho;first|rfl)|(refine And.intro (fun eM=>(Bool.false_ne_true eM).elim) ?_<;>conv=>whnf)|(refine And.intro (fun _=>?_) ?_<;>conv=>whnf)|(refine And.intro ?_ ?_<;>conv=>whnf))),?_⟩;conv=>whnf
  exact hQ h1 _ _ (.inr (.inr ⟨hn,x,j,F,.inl ⟨.inl hc,rfl,rfl⟩⟩)) fr
 have hgf:j.g=false:=hc;repeat(first|(refine⟨_,aS R1.dB.get rfl,?_⟩;conv=>whnf))
 refine fQ (BY kT st.T (by omega) x) rfl (.cons hf (.cons (.clean rfl) .nil)) ?_;conv=>whnf
 repeat(first|(refine⟨_,aS R1.dB.get rfl,?_⟩;conv=>whnf))
 refine JX S (by omega) (by omega) ?_;conv=>whnf
 refine⟨iM (by(conv=>whnf);repeat' (first|exact trivial|exact aS R1.dB.get rfl|(exact⟨rfl,rfl,.inr ⟨_,_,rfl⟩⟩)|(refine⟨rfl,rfl,.inl ⟨rfl,fun o ho=>?_⟩⟩;cases ho;first|rfl|exact aS R1.dB.get rfl)|(exact⟨rfl,.inr ⟨_,_,rfl⟩⟩)|(refine⟨rfl,.inl ⟨rfl,fun i o hi ho=>?_⟩⟩;cases hi;cases ho;first|rfl|exact aS R1.dB.get rfl)|(refine And.intro (fun eM=>(Bool.false_ne_true eM).elim) ?_<;>conv=>whnf)|(refine And.intro (fun _=>?_) ?_<;>conv=>whnf)|(refine And.intro ?_ ?_<;>conv=>whnf))),?_⟩;conv=>whnf
 refine br (fun hc=>?_) (fun hc=>?_)<;>(try rw[hc])<;>(conv=>whnf)
 ·exact hQ h1 _ _ (.inr (.inr ⟨hn,x,j,F,.inl ⟨.inr (of_decide_eq_true hc),rfl,rfl⟩⟩)) fr
 have hle:¬lvl st.T x>iy st.T st.L:=of_decide_eq_false hc;repeat(first|(refine⟨_,aS R1.dB.get rfl,?_⟩;conv=>whnf))
 refine OE S (by omega) ?_;conv=>whnf
 exact hQ h1 _ _ (.inr (.inr ⟨hn,x,j,F,.inr ⟨⟨hgf,hle⟩,rfl,rfl⟩⟩)) fr
end
section
variable {h h':Heap} {col aB:Nat→Nat} {m s q J:Nat} {tv gv:AV} {D:List Int} {ws:Ws} {gs:List (Nat×Int)} {T:List Tk} {L:List En} {st:St} {Q:AV→Heap→Prop} {t:Int}
theorem we{i b p C o o':Nat}{v v':AV}{j j':Jb}{bs:List Nat}(R:qy h col m s q J tv gv (dQ st.j) ws gs st.T st.L)(e1:st.j=wj ws)(e2:st.g=gs.map Prod.snd)(e4:∀(i:Nat) (j:Jb),st.j[i]?=some (some j)→j.l.length≤32∧0≤j.e)(hw:ws[i]?=some (some (b,j)))
  (JJ:JR h b p C o v j)(hC:C<h.next)(c1:col b=10+i)(c2:col p=10+i)(c3:col C=10+i)(zb:JR h' b p C o' v' j')(fr:Fr h h' bs)(hb:∀c∈bs,c=b∨c=p∨c=C)(he:j'.e=j.e)(hl:j'.l.length≤j.l.length):
  RC h' (bZ col h.next (10+i)) m {st with j:=st.j.set i (some j')}∧Kc h h' col (bZ col h.next (10+i)) RK:=by
 have f:Kc h h' col (bZ col h.next (10+i)) (· =10+i):=Kc.of fr (by intro c hc _;rcases hb c hc with rfl|rfl|rfl<;>assumption);have hp:=JJ.rw.lt;have TJ:=JJ.lt;exact⟨RC.v9 R e1 e2 e4 hw f ⟨p,C,o',v',zb,Nat.lt_of_lt_of_le hC f.next,by rw[f.col b TJ,c1],by rw[f.col p hp,c2],by rw[f.col C hC,c3]⟩ he hl,f.wk fun n hn=>by subst hn;exact Ff i (R.len hw)⟩
theorem EL(R:RC h col m st)(hQ:∀h' aB,RC h' aB m (sI st t OH).2→Kc h h' col aB RK→Q (.int .i64 (sI st t OH).1) h'):VD fs ms 66 [.ptr m 0,.int .i64 t] h Q:=by
 have R0:=R;obtain⟨s,q,J,tv,gv,ws,gs,R,e1,e2,e4⟩:=R;refine aj (af:=VL) true rfl (yB rfl) ?_;conv=>whnf
 refine ox R ?_;rw[←e1];conv=>whnf
 refine br (fun hc=>?_) (fun hc=>?_)<;>(try rw[hc])<;>(conv=>whnf)
 ·rw[mK (by simpa using hc)] at hQ;exact hQ h col R0 (Kc.refl _ _ _)
 obtain⟨i,b,j,rfl,hi,hw,hj⟩:=kE R.tl e1 (by simpa using hc);obtain⟨p,C,o,v,JJ,hC,c1,c2,c3⟩:=R.mN i _ hw;repeat(first|(refine⟨_,aS R.dB.get rfl,?_⟩;conv=>whnf)|(refine⟨_,aH (List.getElem?_eq_some_iff.1 hw).1,?_⟩;conv=>whnf)|(refine⟨_,aS R.ko.get (fN hw),?_⟩;conv=>whnf))
 rw[mJ hi hj] at hQ;refine Ot JJ fun h' v' o' zb fr=>?_;conv=>whnf
 obtain⟨R',f⟩:=we R e1 e2 e4 hw JJ hC c1 c2 c3 zb fr (by simp) (HL j) (Ew j);exact hQ h' _ R' f
theorem N9(R:RC h col m st)(hQ:∀h' aB,RC h' aB m (sI st t MV).2→Kc h h' col aB RK→Q (.int .i64 (sI st t MV).1) h'):VD fs ms 65 [.ptr m 0,.int .i64 t] h Q:=by
 have R0:=R;obtain⟨s,q,J,tv,gv,ws,gs,R,e1,e2,e4⟩:=R;refine aj (af:=VK) true rfl (yB rfl) ?_;conv=>whnf
 refine ox R ?_;rw[←e1];conv=>whnf
 refine br (fun hc=>?_) (fun hc=>?_)<;>(try rw[hc])<;>(conv=>whnf)
 ·rw[mK (by simpa using hc)] at hQ;exact hQ h col R0 (Kc.refl _ _ _)
 obtain⟨i,b,j,rfl,hi,hw,hj⟩:=kE R.tl e1 (by simpa using hc);obtain⟨p,C,o,v,JJ,hC,c1,c2,c3⟩:=R.mN i _ hw;repeat(first|(refine⟨_,aS R.dB.get rfl,?_⟩;conv=>whnf)|(refine⟨_,aH (List.getElem?_eq_some_iff.1 hw).1,?_⟩;conv=>whnf)|(refine⟨_,aS R.ko.get (fN hw),?_⟩;conv=>whnf))
 rw[mJ hi hj] at hQ;refine On JJ fun h' v' o' zb fr=>?_;conv=>whnf
 obtain⟨R',f⟩:=we R e1 e2 e4 hw JJ hC c1 c2 c3 zb fr (by simp) rfl (Eu j.l);exact hQ h' _ R' f
theorem JD(R:RC h col m st)(hQ:∀h' aB,RC h' aB m (sI st t uk).2→Kc h h' col aB RK→Q (.int .i64 (sI st t uk).1) h'):VD fs ms 70 [.ptr m 0,.int .i64 t] h Q:=by
 have R0:=R;obtain⟨s,q,J,tv,gv,ws,gs,R,e1,e2,e4⟩:=R;refine aj (af:=VQ) true rfl (yB rfl) ?_;conv=>whnf
 refine ox R ?_;rw[←e1];conv=>whnf
 refine br (fun hc=>?_) (fun hc=>?_)<;>(try rw[hc])<;>(conv=>whnf)
 ·rw[mK (by simpa using hc)] at hQ;exact hQ h col R0 (Kc.refl _ _ _)
 obtain⟨i,b,j,rfl,hi,hw,hj⟩:=kE R.tl e1 (by simpa using hc);obtain⟨p,C,o,v,JJ,hC,c1,c2,c3⟩:=R.mN i _ hw;repeat(first|(refine⟨_,aS R.dB.get rfl,?_⟩;conv=>whnf)|(refine⟨_,aH (List.getElem?_eq_some_iff.1 hw).1,?_⟩;conv=>whnf)|(refine⟨_,aS R.ko.get (fN hw),?_⟩;conv=>whnf)|(refine⟨_,aS JJ.st rfl,?_⟩;conv=>whnf))
 rw[mJ hi hj] at hQ;refine br (fun hc=>?_) (fun hc=>?_)<;>(try rw[hc])<;>(conv=>whnf)
 ·have hs:j.s≠3:=by simpa using hc
  rw[uk,if_pos hs,mB hj] at hQ;exact hQ h col R0 (Kc.refl _ _ _)
 have hs:¬j.s≠3:=by simpa using hc
 rw[uk,if_neg hs] at hQ;repeat(first|(refine⟨_,aS R.dB.get rfl,?_⟩;conv=>whnf)|(refine⟨_,aH (List.getElem?_eq_some_iff.1 hw).1,?_⟩;conv=>whnf)|(refine⟨_,aS R.ko.get (fN hw),?_⟩;conv=>whnf))
 refine z9 JJ fun h' zb fr=>?_;conv=>whnf
 obtain⟨R',f⟩:=we R e1 e2 e4 hw JJ hC c1 c2 c3 zb fr (by simp) (pU j 2).1 (by rw[(pU j 2).2];exact Nat.le_refl _);exact hQ h' _ R' f
theorem JA(R:RC h col m st)(hQ:∀h' aB,RC h' aB m (sI st t uh).2→Kc h h' col aB RK→Q (.int .i64 (sI st t uh).1) h'):VD fs ms 71 [.ptr m 0,.int .i64 t] h Q:=by
 have R0:=R;obtain⟨s,q,J,tv,gv,ws,gs,R,e1,e2,e4⟩:=R;refine aj (af:=VR) true rfl (yB rfl) ?_;conv=>whnf
 refine ox R ?_;rw[←e1];conv=>whnf
 refine br (fun hc=>?_) (fun hc=>?_)<;>(try rw[hc])<;>(conv=>whnf)
 ·rw[mK (by simpa using hc)] at hQ;exact hQ h col R0 (Kc.refl _ _ _)
 obtain⟨i,b,j,rfl,hi,hw,hj⟩:=kE R.tl e1 (by simpa using hc);obtain⟨p,C,o,v,JJ,hC,c1,c2,c3⟩:=R.mN i _ hw;repeat(first|(refine⟨_,aS R.dB.get rfl,?_⟩;conv=>whnf)|(refine⟨_,aH (List.getElem?_eq_some_iff.1 hw).1,?_⟩;conv=>whnf)|(refine⟨_,aS R.ko.get (fN hw),?_⟩;conv=>whnf)|(refine⟨_,aS JJ.st rfl,?_⟩;conv=>whnf))
 rw[mJ hi hj] at hQ;refine br (fun hc=>?_) (fun hc=>?_)<;>(try rw[hc])<;>(conv=>whnf)
 ·have hs:j.s≠2:=by simpa using hc
  rw[uh,if_pos hs,mB hj] at hQ;exact hQ h col R0 (Kc.refl _ _ _)
 have hs:¬j.s≠2:=by simpa using hc
 rw[uh,if_neg hs] at hQ;repeat(first|(refine⟨_,aS R.dB.get rfl,?_⟩;conv=>whnf)|(refine⟨_,aH (List.getElem?_eq_some_iff.1 hw).1,?_⟩;conv=>whnf)|(refine⟨_,aS R.ko.get (fN hw),?_⟩;conv=>whnf))
 refine EP JJ fun h' zb fr=>?_;conv=>whnf
 obtain⟨R',f⟩:=we R e1 e2 e4 hw JJ hC c1 c2 c3 zb fr (by simp) (v8 j).1 (by rw[(v8 j).2];exact Nat.le_refl _);exact hQ h' _ R' f
theorem N8(R:RC h col m st)(hQ:∀h' aB,RC h' aB m (sI st t (uH (gT st t))).2→Kc h h' col aB RK→Q (.int .i64 (sI st t (uH (gT st t))).1) h'):VD fs ms 69 [.ptr m 0,.int .i64 t] h Q:=by
 have R0:=R;obtain⟨s,q,J,tv,gv,ws,gs,R,e1,e2,e4⟩:=R;refine aj (af:=VP) true rfl (yB rfl) ?_;conv=>whnf
 refine ox R ?_;rw[←e1];conv=>whnf
 refine br (fun hc=>?_) (fun hc=>?_)<;>(try rw[hc])<;>(conv=>whnf)
 ·rw[mK (by simpa using hc)] at hQ;exact hQ h col R0 (Kc.refl _ _ _)
 obtain⟨i,b,j,rfl,hi,hw,hj⟩:=kE R.tl e1 (by simpa using hc);obtain⟨p,C,o,v,JJ,hC,c1,c2,c3⟩:=R.mN i _ hw;have hgt:gT st i=st.T[i].c:=by rw[gT,Int.toNat_natCast,List.getElem?_eq_getElem hi]
 rw[mJ hi hj,hgt] at hQ;obtain⟨tb,sZ,oz,_⟩:=R.An.1.at hi;have hl5:=oz 5 (.int .i64 st.T[i].c) rfl;repeat(first|(refine⟨_,aS R.dB.get rfl,?_⟩;conv=>whnf)|(refine⟨_,sZ,?_⟩;conv=>whnf)|(refine⟨_,hl5,?_⟩;conv=>whnf))
 refine br (fun hc=>?_) (fun hc=>?_)<;>(try rw[hc])<;>(conv=>whnf)
 ·have hs:st.T[i].c=0:=by simpa using hc
  rw[uH,if_pos hs,mB hj] at hQ;exact hQ h col R0 (Kc.refl _ _ _)
 have hs:¬st.T[i].c=0:=by simpa using hc
 rw[uH,if_neg hs] at hQ;repeat(first|(refine⟨_,aS R.dB.get rfl,?_⟩;conv=>whnf)|(refine⟨_,aH (List.getElem?_eq_some_iff.1 hw).1,?_⟩;conv=>whnf)|(refine⟨_,aS R.ko.get (fN hw),?_⟩;conv=>whnf)|(refine⟨_,aS JJ.st rfl,?_⟩;conv=>whnf))
 refine br (fun hc=>?_) (fun hc=>?_)<;>(try rw[hc])<;>(conv=>whnf)
 ·have h3:j.s=3:=by simpa using hc
  rw[if_pos h3,mB hj] at hQ;exact hQ h col R0 (Kc.refl _ _ _)
 have h3:¬j.s=3:=by simpa using hc
 rw[if_neg h3] at hQ;repeat(first|(refine⟨_,aS R.dB.get rfl,?_⟩;conv=>whnf)|(refine⟨_,aH (List.getElem?_eq_some_iff.1 hw).1,?_⟩;conv=>whnf)|(refine⟨_,aS R.ko.get (fN hw),?_⟩;conv=>whnf))
 refine z9 JJ fun h' zb fr=>?_;conv=>whnf
 obtain⟨R',f⟩:=we R e1 e2 e4 hw JJ hC c1 c2 c3 zb fr (by simp) (pU j 3).1 (by rw[(pU j 3).2];exact Nat.le_refl _);exact hQ h' _ R' f
end
section
variable {h h':Heap} {col aB:Nat→Nat} {m s q J:Nat} {tv gv:AV} {D:List Int} {ws:Ws} {gs:List (Nat×Int)} {T:List Tk} {L:List En} {st:St} {Q:AV→Heap→Prop} {t:Int}
theorem Ak{v v':AV}{L':List En}{bs:List Nat}(S:qA h s tv v T L)(c1:col s=2)(c2:∀d,d∈dM tv→col d=2)(c3:∀d,d∈dM v→col d=2)(S':qA h' s tv v' T L')(fr:Fr h h' bs)(hb:∀c,c∈bs→c=s∨c∈dM v)(hv:∀d,d∈dM v'→d∈dM v∨h.next≤d):
  Kc h h' col (bZ col h.next 2) (· =2)∧Cs h' (bZ col h.next 2) s T L':=by
 refine⟨Kc.of fr fun c hc _=>?_,tv,v',S',by rw[bN S.lt,c1],fun d hd=>by rw[bN (S.tr.lt d hd).1,c2 d hd],fun d hd=>?_⟩
 ·rcases hb c hc with rfl|h
  ·exact c1
  ·exact c3 c h
 ·rcases hv d hd with h|h
  ·rw[bN (GR.Gg S.en h).2.1,c3 d h]
  ·exact cz h
theorem qy.SX{i:Nat}{w:Option (Nat×Jb)}(R:qy h col m s q J tv gv D ws gs T L)(hi:i<ws.length)(f:Kc h h' col aB (· =4))(hg:h'.get J=some (.cells (Heap.splice ((ws.map (Option.map Prod.fst)).map xF) (i*1) [US w]) true 0))
  (hw:∀x,w=some x→O5 h' aB i x.1 x.2):qy h' aB m s q J tv gv D (ws.set i w) gs T L:=by
 refine⟨R.n4,by rw[List.length_set];exact R.tl,R.gl,?_,R.An.keep f (by decide),R.stk.keep f (by decide),R.z5.keep f (by decide),⟨Nat.lt_of_lt_of_le R.ko.lt f.next,(f.col J R.ko.lt).trans R.ko.co,?_⟩,fun n x hn=>?_,R.uK.keep f (by decide) (by intro i _;omega)⟩
 ·rw[List.length_set];exact R.dB.keep f (by decide)
 ·rw[Cg hi] at hg;exact hg
 ·rw[List.getElem?_set] at hn;by_cases e:i=n
  ·subst e;rw[if_pos rfl,if_pos hi] at hn;exact hw x (Option.some.inj hn)
  ·rw[if_neg e] at hn;exact(R.mN n x hn).keep f (by omega)
theorem qy.Qz{i:Nat}{g:Nat×Int}{tk:Tk}{n:Int}(R:qy h col m s q J tv gv D ws gs T L)(hg:gs[i]?=some g)(ht:T[i]?=some tk)(f:Kc h h' col aB (· =20+i))(hb:h'.get g.1=some (gB tk.p n)):qy h' aB m s q J tv gv D ws (gs.set i (g.1,n)) T L:=by
 obtain⟨b1,b2,b3,b4⟩:=R.uK.all i g tk hg ht;have hi:=(List.getElem?_eq_some_iff.1 hg).1;have Nj:=R.n4;have sq:=R.gl;have em:(gs.set i (g.1,n)).map (fun g=>AV.ptr g.1 0)=gs.map fun g=>AV.ptr g.1 0:=by
  rw[List.map_set];exact dc (by rw[List.getElem?_map,hg];rfl)
 refine⟨R.n4,R.tl,by rw[List.length_set];exact R.gl,R.dB.keep f (by omega),R.An.keep f (by omega),R.stk.keep f (by omega),R.z5.keep f (by omega),R.ko.keep f (by omega),fun n w hw=>(R.mN n w hw).keep f (by have:=R.len hw;omega),?_,fun m g' t' hm ht'=>?_⟩
 ·rcases R.uK.row with h|⟨G,op,es,a1,a2,a3,a4⟩
  ·left;rw[h];rfl
  ·right;rw[List.length_set,em];exact⟨G,op,es,a1,Nat.lt_of_lt_of_le a2 f.next,(f.col G a2).trans a3,(f.keep G a2 (by rw[a3];omega)).trans a4⟩
 ·rw[List.getElem?_set] at hm;by_cases e:i=m
  ·subst e;rw[if_pos rfl,if_pos hi] at hm;cases hm
   rw[ht] at ht';cases ht'
   exact⟨b1,Nat.lt_of_lt_of_le b2 f.next,(f.col _ b2).trans b3,hb⟩
  ·rw[if_neg e] at hm;obtain⟨a1,a2,a3,a4⟩:=R.uK.all m g' t' hm ht';exact⟨a1,Nat.lt_of_lt_of_le a2 f.next,(f.col _ a2).trans a3,(f.keep _ a2 (by rw[a3];omega)).trans a4⟩
theorem ZS:RK 2:=⟨by decide,by decide⟩
theorem JF{x:Int}(R:RC h col m st)(hL:st.L.length≤900)(hH:(bx st.L t).length≤4)(hQ:∀h' aB,RC h' aB m (qM st t x).2→Kc h h' col aB RK→Q (.int .i64 (qM st t x).1) h'):VD fs ms 67 [.ptr m 0,.int .i64 t,.int .i64 x] h Q:=by
 have R0:=R;obtain⟨s,q,J,tv,gv,ws,gs,R,e1,e2,e4⟩:=R;have n4:=R.n4;refine aj (af:=VM) true rfl (yB rfl) ?_;conv=>whnf
 refine ox R ?_;rw[←e1];conv=>whnf
 refine br (fun hc=>?_) (fun hc=>?_)<;>(try rw[hc])<;>(conv=>whnf)
 ·rw[qM,if_pos (by simpa using hc)] at hQ;exact hQ h col R0 (Kc.refl _ _ _)
 have ho:lW st.T st.j t=0:=by simpa using hc
 rw[qM,if_neg (by simpa using ho)] at hQ;obtain⟨i,b,j,rfl,hi,hw,hj⟩:=kE R.tl e1 ho;rw[Int.toNat_natCast,hj] at hQ;simp only at hQ;obtain⟨p,C,o,v,JJ,hC,c1,c2,c3⟩:=R.mN i _ hw;repeat(first|(refine⟨_,aS R.dB.get rfl,?_⟩;conv=>whnf)|(refine⟨_,aH (List.getElem?_eq_some_iff.1 hw).1,?_⟩;conv=>whnf)|(refine⟨_,aS R.ko.get (fN hw),?_⟩;conv=>whnf)|(refine⟨_,aS JJ.st rfl,?_⟩;conv=>whnf))
 refine br (fun hc=>?_) (fun hc=>?_)<;>(try rw[hc])<;>(conv=>whnf)
 ·rw[if_pos (of_decide_eq_true hc)] at hQ;exact hQ h col R0 (Kc.refl _ _ _)
 rw[if_neg (of_decide_eq_false hc)] at hQ;obtain⟨WE,v2,S,d1,d2,d3⟩:=R.stk;repeat(first|(refine⟨_,aS R.dB.get rfl,?_⟩;conv=>whnf))
 refine J7 S (by omega) hL hH (fun hl h1 fr=>?_) (fun hl h1 v' S' fr rR=>?_)
 ·rw[if_pos hl] at hQ;conv=>whnf
  refine nC ((by simpa using hl)) (fun hc=>?_)
  (try rw[hc])
  conv=>whnf
  exact hQ h1 col (R0.nil fr) (Kc.same fr)
 rw[if_neg (by simpa using hl)] at hQ;obtain⟨f2,S2⟩:=Ak S d1 d2 d3 S' fr (by simp) (fun d hd=>.inr (rR d hd));have R2:=R.DB f2 S2;have f3:=f2.wk (K':=RK) fun n hn=>by subst hn;exact ZS
 generalize bZ col h.next 2=colA at*;obtain⟨p,C,o,v,JJ,hC,c1,c2,c3⟩:=R2.mN i _ hw;conv=>whnf
 repeat(first|(refine⟨_,aS R2.dB.get rfl,?_⟩;conv=>whnf)|(refine⟨_,aH (List.getElem?_eq_some_iff.1 hw).1,?_⟩;conv=>whnf)|(refine⟨_,aS R2.ko.get (fN hw),?_⟩;conv=>whnf)|(refine⟨_,aS JJ.st rfl,?_⟩;conv=>whnf))
 refine br (fun hc=>?_) (fun hc=>?_)<;>(try rw[hc])<;>(conv=>whnf)
 ·obtain⟨q1,q2⟩:=Em (j:=j) (eq_of_beq hc);repeat(first|(refine⟨_,aS R2.dB.get rfl,?_⟩;conv=>whnf)|(refine⟨_,aH (List.getElem?_eq_some_iff.1 hw).1,?_⟩;conv=>whnf)|(refine⟨_,aS R2.ko.get (fN hw),?_⟩;conv=>whnf))
  refine z9 JJ fun h4 zb jJ=>?_;conv=>whnf
  have Td:JR h4 b p C o v (yG j):=by rw[←q2];exact zb
  obtain⟨R',f⟩:=we (st:={st with L:=st.L++[((i:Int),x)]}) R2 e1 e2 e4 hw JJ hC c1 c2 c3 Td jJ (by simp) (by rw[yG];split<;>rfl) (by rw[yG];split<;>exact Nat.le_refl _);exact hQ h4 _ R' (f3.trans f)
 ·have e:yG j=j:=by rw[yG];exact if_neg (by rw[hc];simp)
  rw[e] at hQ;refine hQ h1 colA ⟨s,q,J,tv,gv,ws,gs,?_,?_,e2,?_⟩ f3
  ·show qy h1 colA m s q J tv gv (dQ (st.j.set i (some j))) ws gs st.T (st.L++[((i:Int),x)]);rw[dc hj];exact R2
  ·show st.j.set i (some j)=_;rw[dc hj];exact e1
  ·show∀(n:Nat) (j':Jb),(st.j.set i (some j))[n]?=some (some j')→_;rw[dc hj];exact e4
theorem Od(R:RC h col m st)(hL:st.L.length≤900)(hQ:∀h' aB,RC h' aB m (xN st t).2→Kc h h' col aB RK→Q (.int .i64 (xN st t).1) h'):VD fs ms 68 [.ptr m 0,.int .i64 t] h Q:=by
 have R0:=R;obtain⟨s,q,J,tv,gv,ws,gs,R,e1,e2,e4⟩:=R;refine aj (af:=VN) true rfl (yB rfl) ?_;conv=>whnf
 refine ox R ?_;rw[←e1];conv=>whnf
 refine br (fun hc=>?_) (fun hc=>?_)<;>(try rw[hc])<;>(conv=>whnf)
 ·rw[xN,if_pos (by simpa using hc)] at hQ;exact hQ h col R0 (Kc.refl _ _ _)
 have ho:lW st.T st.j t=0:=by simpa using hc
 rw[xN,if_neg (by simpa using ho)] at hQ;obtain⟨i,b,j,rfl,hi,hw,hj⟩:=kE R.tl e1 ho;rw[Int.toNat_natCast,hj] at hQ;simp only at hQ;obtain⟨WE,v2,S,d1,d2,d3⟩:=R.stk;repeat(first|(refine⟨_,aS R.dB.get rfl,?_⟩;conv=>whnf))
 refine EX S hL (fun hu=>?_) (fun hu n hn hla h1 v' S' fr rR=>?_)
 ·rw[if_pos hu] at hQ;conv=>whnf
  refine nC ((by simpa using hu)) (fun hc=>?_)
  (try rw[hc])
  conv=>whnf
  exact hQ h col R0 (Kc.refl _ _ _)
 rw[if_neg (by simpa using hu),hla,Int.toNat_natCast] at hQ;obtain⟨f2,S2⟩:=Ak S d1 d2 d3 S' fr (by simp) (fun d hd=>.inr (rR d hd));have R2:=R.DB f2 S2;have f3:=f2.wk (K':=RK) fun n hn=>by subst hn;exact ZS
 generalize bZ col h.next 2=colA at*;have hL':(st.L.eraseIdx n).length≤1000:=by rw[List.length_eraseIdx];split<;>omega
 generalize st.L.eraseIdx n=L' at*;conv=>whnf
 repeat(first|(refine⟨_,aS R2.dB.get rfl,?_⟩;conv=>whnf))
 refine nh S' hL' fun h4 w gr jJ=>?_;conv=>whnf
 rw[GR.len gr,bH];conv=>whnf
 have R4:=R2.nil jJ;have f5:Kc h h4 col colA RK:=f3.trans (Kc.same jJ);obtain⟨p,C,o,v,JJ,hC,c1,c2,c3⟩:=R4.mN i _ hw;by_cases hz:bx L' (i:Int)=[]
 ·have e:uP L' i j=sB j:=by rw[uP,hz];rfl
  rw[e] at hQ;refine qq (by simp[hz]) (fun hc=>?_)
  (try rw[hc])
  conv=>whnf
  repeat(first|(refine⟨_,aS R4.dB.get rfl,?_⟩;conv=>whnf)|(refine⟨_,aH (List.getElem?_eq_some_iff.1 hw).1,?_⟩;conv=>whnf)|(refine⟨_,aS R4.ko.get (fN hw),?_⟩;conv=>whnf))
  refine EP JJ fun h6 zb CO=>?_;conv=>whnf
  obtain⟨R',f⟩:=we (st:={st with L:=L'}) R4 e1 e2 e4 hw JJ hC c1 c2 c3 zb CO (by simp) (v8 j).1 (by rw[(v8 j).2];exact Nat.le_refl _);exact hQ h6 _ R' (f5.trans f)
 ·have e:uP L' i j=j:=by
   rw[uP,if_neg];cases hh:bx L' i with
   |nil=>exact absurd hh hz
   |cons x l=>simp
  have hlz:¬(bx L' (i:Int)).length=0:=fun h=>hz (List.eq_nil_of_length_eq_zero h);rw[e] at hQ;refine nC (by simpa using hz) (fun hc=>?_)
  (try rw[hc])
  conv=>whnf
  refine hQ h4 colA ⟨s,q,J,tv,gv,ws,gs,?_,?_,e2,?_⟩ f5
  ·show qy h4 colA m s q J tv gv (dQ (st.j.set i (some j))) ws gs st.T L';rw[dc hj];exact R4
  ·show st.j.set i (some j)=_;rw[dc hj];exact e1
  ·show∀(n:Nat) (j':Jb),(st.j.set i (some j))[n]?=some (some j')→_;rw[dc hj];exact e4
end
section
variable {h h':Heap} {col aB:Nat→Nat} {m s q J:Nat} {tv gv:AV} {D:List Int} {ws:Ws} {gs:List (Nat×Int)} {T:List Tk} {L:List En} {st:St} {Q:AV→Heap→Prop} {t:Int}
theorem EH{b es:Nat}{op:Bool}{D':List Int}(M:rP h q b es op D)(c1:col q=3)(c2:col b=3)(M':rP h' q b es op D')(fr:Fr h h' [b]):Kc h h' col (bZ col h.next 3) (· =3)∧Ax h' (bZ col h.next 3) q D':=
 ⟨Kc.of fr (by intro c hc _;simp at hc;rw[hc];exact c2),b,es,op,M',by rw[bN M.lm,c1],by rw[bN M.lb,c2]⟩
theorem SC{n:Nat}(h:1≤n)(h2:n<100):RK n:=⟨h,h2⟩
theorem Oa(R:RC h col m st)(hL:st.L.length≤900)(hQ:∀h' aB,RC h' aB m (xw st t).2→Kc h h' col aB RK→Q (.bool (xw st t).1) h'):VD fs ms 72 [.ptr m 0,.int .i64 t] h Q:=by
 have R0:=R;obtain⟨s,q,J,tv,gv,ws,gs,R,e1,e2,e4⟩:=R;refine aj (af:=VT) true rfl (yB rfl) ?_;conv=>whnf
 refine ox R ?_;rw[←e1];conv=>whnf
 refine br (fun hc=>?_) (fun hc=>?_)<;>(try rw[hc])<;>(conv=>whnf)
 ·rw[xw,if_pos (by simpa using hc)] at hQ;exact hQ h col R0 (Kc.refl _ _ _)
 have ho:lW st.T st.j t=0:=by simpa using hc
 rw[xw,if_neg (by simpa using ho)] at hQ;obtain⟨i,b,j,rfl,hi,hw,hj⟩:=kE R.tl e1 ho;rw[Int.toNat_natCast] at hQ;have Iu:=(List.getElem?_eq_some_iff.1 hw).1;repeat(first|(refine⟨_,aS R.dB.get rfl,?_⟩;conv=>whnf)|(refine⟨_,aH Iu,?_⟩;conv=>whnf))
 refine bV (bp R.ko.get rfl (by rw[List.length_map,List.length_map];omega) rfl) fun h1 E1=>?_;have dy:Fr h h1 [J]:=by rw[E1];exact(Fr.refl _ _).set (by simp)
 have f1:Kc h h1 col (bZ col h.next 4) (· =4):=Kc.of dy (by intro c hc _;simp at hc;rw[hc];exact R.ko.co);have R1:=R.SX (w:=none) Iu f1 (by rw[E1];exact au) (fun x hx=>by cases hx);clear E1;have k1:=f1.wk (K':=RK) fun n hn=>by subst hn;exact SC (by omega) (by omega)
 generalize bZ col h.next 4=colA at*;obtain⟨qb,es,op,M,d1,d2⟩:=R1.z5;have Y2:=(e4 i j hj).2;have Yz:gD (dQ st.j) i=j.e:=sg hj;have hlen:i<(dQ st.j).length:=by rw[tn];exact(List.getElem?_eq_some_iff.1 hj).1
 conv=>whnf
 repeat(first|(refine⟨_,aS R1.dB.get rfl,?_⟩;conv=>whnf))
 refine Gd M _ (fun hn=>?_) (fun n hn FR hg h2 M' ey=>?_)
 ·rw[vQ,decide_eq_true (by omega),decide_eq_true (by omega),Int.toNat_natCast,Yz,decide_eq_true Y2] at hn;exact absurd hn (by decide)
 have hni:n=i:=by omega
 subst hni;obtain⟨f2,Q2⟩:=EH M d1 d2 M' ey;have R2:=R1.Jv f2 Q2;have k2:=f2.wk (K':=RK) fun n hn=>by subst hn;exact SC (by omega) (by omega)
 generalize bZ colA h1.next 3=colB at*;obtain⟨WE,v2,S,s1,s2,s3⟩:=R2.stk;have CV:cw st.T (n:Int)=0:=by rw[cw,decide_eq_false (by omega),decide_eq_false (by omega)];rfl
 conv=>whnf
 repeat(first|(refine⟨_,aS R2.dB.get rfl,?_⟩;conv=>whnf))
 refine JZ S CV hL fun h3 w v' S' gx rR=>?_;obtain⟨f3,S3⟩:=Ak S s1 s2 s3 S' gx (by simp) rR;have R3:=R2.DB f3 S3;have k3:=f3.wk (K':=RK) fun n hn=>by subst hn;exact SC (by omega) (by omega)
 generalize bZ colB h2.next 2=colC at*;conv=>whnf
 refine hQ h3 colC ⟨s,q,J,tv,gv,ws.set n none,gs,?_,?_,e2,fun k jn hn=>?_⟩ (k1.trans (k2.trans k3))
 ·have:dQ (st.j.set n none)=(dQ st.j).set n (-1):=by rw[dQ,dQ,List.map_set]
  show qy h3 colC m s q J tv gv (dQ (st.j.set n none)) (ws.set n none) gs st.T (jF st.L n);rw[this];exact R3
 ·show st.j.set n none=wj (ws.set n none);rw[e1,wj,wj,List.map_set];rfl
 ·have hn:(st.j.set n none)[k]?=some (some jn):=hn;rw[List.getElem?_set] at hn;split at hn
  ·split at hn<;>simp at hn
  ·exact e4 k jn hn
theorem Oc{kk:Nat}{l:List Op}{now:Int}(R:RC h col m st)(hl:l.length<2^62)(hQ:∀h' aB,RC h' aB m (wL st t l now).2→Kc h h' col aB RK→Q (.int .i64 (wL st t l now).1) h'):VD fs ms 64 [.ptr m 0,.int .i64 t,.fz kk (ops l),.int .i64 now] h Q:=by
 have R0:=R;obtain⟨s,q,J,tv,gv,ws,gs,R,e1,e2,e4⟩:=R;have n4:=R.n4;have KO:=R.tl;have sq:=R.gl;by_cases ha:cw st.T t=0
 rotate_left
 ·have h9:cw st.T t=9:=by
   rw[cw] at ha⊢;split at ha
   ·rename_i hh;rw[if_pos hh]
   ·exact absurd rfl ha
  rw[wL,if_pos ha,h9] at hQ;refine aj (af:=S5) true rfl (yB rfl) ?_;conv=>whnf
  refine br (fun hc=>?_) (fun hc=>?_)<;>(try rw[hc])<;>(conv=>whnf)
  ·exact hQ h col R0 (Kc.refl _ _ _)
  have hneg:=hc;repeat(first|(refine⟨_,aS R.dB.get rfl,?_⟩;conv=>whnf))
  rw[R.An.1.len];conv=>whnf
  refine br (fun hc=>?_) (fun hc=>?_)<;>(try rw[hc])<;>(conv=>whnf)
  ·exact hQ h col R0 (Kc.refl _ _ _)
  ·rw[cw,hneg,hc] at ha;exact absurd rfl ha
 rw[wL,if_neg (by simpa using ha)] at hQ;obtain⟨i,rfl,hi⟩:=tc ha;rw[Int.toNat_natCast] at hQ;have Iu:i<ws.length:=by omega
 have hw:ws[i]?=some ws[i]:=List.getElem?_eq_getElem Iu;refine aj (af:=S5) true rfl (yB rfl) ?_;conv=>whnf
 repeat(first|(refine⟨_,aS R.dB.get rfl,?_⟩;conv=>whnf))
 rw[R.An.1.len];conv=>whnf
 refine nC (by simp;omega) (fun hc=>?_)
 (try rw[hc])
 conv=>whnf
 cases TP:ws[i] with
 |some w=>
  rw[TP] at hw;repeat(first|(refine⟨_,aS R.dB.get rfl,?_⟩;conv=>whnf)|(refine⟨_,aH Iu,?_⟩;conv=>whnf)|(refine⟨_,aS R.ko.get (fN hw),?_⟩;conv=>whnf))
  have hj:st.j[i]?=some (some w.2):=by rw[e1];exact dn hw
  rw[hj] at hQ;exact hQ h col R0 (Kc.refl _ _ _)
 |none=>
 rw[TP] at hw;have Wr:((ws.map (Option.map Prod.fst)).map xF)[i*1]?=some (xF none):=by rw[Nat.mul_one,List.getElem?_map,List.getElem?_map,hw];rfl
 have hj:st.j[i]?=some none:=by rw[e1];exact sV hw
 obtain⟨g,Ec⟩:∃g,gs[i]?=some g:=⟨_,List.getElem?_eq_getElem (by omega)⟩;have sY:st.g[i]?=some g.2:=by rw[e2,List.getElem?_map,Ec];rfl
 have Nm:st.T[i]?=some st.T[i]:=List.getElem?_eq_getElem hi;rw[hj,Nm,sY] at hQ;simp only at hQ;obtain⟨tb,sZ,_,Y6⟩:=R.An.1.at hi;generalize st.T[i]=lY at*;repeat(first|(refine⟨_,aS R.dB.get rfl,?_⟩;conv=>whnf)|(refine⟨_,aH Iu,?_⟩;conv=>whnf)|(refine⟨_,aS R.ko.get Wr,?_⟩;conv=>whnf))
 repeat(first|(refine⟨_,aS R.dB.get rfl,?_⟩;conv=>whnf)|(refine⟨_,sZ,?_⟩;conv=>whnf)|(refine⟨_,Y6,?_⟩;conv=>whnf))
 refine Oo hl (fun hn h5 fr=>?_) (fun hz h5 b p C v JJ hb hp hC Yx fr=>?_)
 ·rw[if_pos hn] at hQ;conv=>whnf
  refine qq ((by simpa using hn)) (fun hc=>?_)
  (try rw[hc])
  conv=>whnf
  exact hQ h5 col (R0.nil fr) (Kc.same fr)
 rw[if_neg (by simpa using hz)] at hQ;obtain⟨ZA,ok2,ok3,ok4,ZB⟩:=Ep hz;have j5:=JJ.rw.lt;have Td:JR h5 b p (if l=[] then p else C) 0 v (jE lY l now):=by
  refine⟨JJ.lt,JJ.st,JJ.rw.any (fun hne=>if_neg hne),JJ.n1,?_⟩;by_cases e:l=[]
  ·rw[if_pos e];exact JJ.n1
  ·rw[if_neg e];exact JJ.n2
 have f5:Kc h h5 col (bZ col h.next (10+i)) (fun _=>False):=Kc.nil fr (10+i);have Pn:(if l=[] then p else C)<h5.next∧h.next≤(if l=[] then p else C):=by
  by_cases e:l=[]
  ·rw[if_pos e];exact⟨j5,hp⟩
  ·rw[if_neg e];exact⟨Yx e,hC⟩
 have JB:O5 h5 (bZ col h.next (10+i)) i b (jE lY l now):=⟨p,_,0,v,Td,Pn.1,cz hb,cz hp,cz Pn.2⟩;have R5:=R.keep f5 (fun _ _ _ h=>h);have k5:=f5.wk (K':=RK) fun _ h=>h.elim;generalize bZ col h.next (10+i)=mV at*;obtain⟨a1,a2,a3,a4⟩:=R5.uK.all i g lY Ec Nm;have hgrow:∃G op es,gv=.sl G 0 gs.length gs.length op∧h5.get G=some (.cells (gs.map fun g=>.ptr g.1 0) true es):=by
  rcases R5.uK.row with h|⟨G,op,es,b1,_,_,b2⟩
  ·rw[h] at Ec;simp at Ec
  ·exact⟨G,op,es,b1,b2⟩
 obtain⟨G,op,es,rfl,hG⟩:=hgrow;have YA:(gs.map fun g=>AV.ptr g.1 0)[i*1]?=some (.ptr g.1 0):=by rw[Nat.mul_one,List.getElem?_map,Ec];rfl
 have Y0:i<gs.length:=by omega
 conv=>whnf
 repeat(first|(refine⟨_,aS R5.dB.get rfl,?_⟩;conv=>whnf)|(refine⟨_,aH Y0,?_⟩;conv=>whnf)|(refine⟨_,aS hG YA,?_⟩;conv=>whnf))
 refine Ol a4 fun h6 YJ CO=>?_;have f6:Kc h5 h6 mV (bZ mV h5.next (20+i)) (· =20+i):=Kc.of CO (by intro c hc _;simp at hc;rw[hc];exact a3);have R6:=R5.Qz Ec Nm f6 YJ;have WH:=JB.keep f6 (by omega);have k6:=f6.wk (K':=RK) fun n hn=>by subst hn;exact SC (by omega) (by omega)
 generalize bZ mV h5.next (20+i)=col6 at*;have eg:(gs.set i (g.1,zx lY.p g.2 now)).map Prod.snd=st.g.set i (zx lY.p g.2 now):=by rw[List.map_set,←e2]
 conv=>whnf
 by_cases Ni:ku g.2 now=0
 rotate_left
 ·rw[if_pos Ni] at hQ;refine qq ((by simpa using Ni)) (fun hc=>?_)
  (try rw[hc])
  conv=>whnf
  have eg2:zx lY.p g.2 now=g.2:=by rw[zx,if_neg Ni]
  have hsg:gs.set i (g.1,g.2)=gs:=dc Ec;rw[eg2,hsg] at R6;exact hQ h6 col6 ⟨s,q,J,tv,_,ws,gs,R6,e1,e2,e4⟩ (k5.trans k6)
 rw[if_neg (by simpa using Ni)] at hQ;refine nC ((by simpa using Ni)) (fun hc=>?_)
 (try rw[hc])
 conv=>whnf
 repeat(first|(refine⟨_,aS R6.dB.get rfl,?_⟩;conv=>whnf)|(refine⟨_,aH Iu,?_⟩;conv=>whnf))
 refine bV (bp R6.ko.get rfl (by rw[List.length_map,List.length_map];omega) rfl) fun h7 E7=>?_;have Pg:Fr h6 h7 [J]:=by rw[E7];exact(Fr.refl _ _).set (by simp)
 have f7:Kc h6 h7 col6 (bZ col6 h6.next 4) (· =4):=Kc.of Pg (by intro c hc _;simp at hc;rw[hc];exact R6.ko.co);have Tc:=WH.keep f7 (by omega);have R7:=R6.SX (w:=some (b,jE lY l now)) Iu f7 (by rw[E7];exact au) (fun x hx=>by cases hx;exact Tc);have k7:=f7.wk (K':=RK) fun n hn=>by subst hn;exact SC (by omega) (by omega)
 clear E7;generalize bZ col6 h6.next 4=col7 at*;obtain⟨qb,qes,SU,M,d1,d2⟩:=R7.z5;obtain⟨p',C',o',v',WI,_⟩:=Tc;have je:(jE lY l now).e=now+lY.d:=ZB;have Yz:gD (dQ st.j) i=-1:=by rw[CD,hj]
 have hlen:(dQ st.j).length=st.T.length:=by rw[tn,e1,wj,List.length_map];exact KO
 conv=>whnf
 repeat(first|(refine⟨_,aS R7.dB.get rfl,?_⟩;conv=>whnf)|(refine⟨_,aS WI.st rfl,?_⟩;conv=>whnf))
 refine RL M _ _ (fun h=>by omega) (fun _ h=>by rw[je] at h;omega) (fun _ _ h=>by rw[Int.toNat_natCast,Yz] at h;omega) (fun _ n hn FR hg h8 M' KG=>?_);have hni:n=i:=by omega
 subst hni;obtain⟨f8,Q8⟩:=EH M d1 d2 M' KG;have R8:=R7.Jv f8 Q8;have k8:=f8.wk (K':=RK) fun n hn=>by subst hn;exact SC (by omega) (by omega)
 generalize bZ col7 h7.next 3=col8 at*;conv=>whnf
 refine hQ h8 col8 ⟨s,q,J,tv,.sl G 0 gs.length gs.length op,ws.set n (some (b,jE lY l now)),gs.set n (g.1,zx lY.p g.2 now),?_,?_,eg.symm,fun k jn hkn=>?_⟩ (k5.trans (k6.trans (k7.trans k8)))
 ·have:dQ (st.j.set n (some (jE lY l now)))=(dQ st.j).set n (jE lY l now).e:=by rw[dQ,dQ,List.map_set]
  show qy h8 col8 m s q J tv (.sl G 0 gs.length gs.length op) (dQ (st.j.set n (some (jE lY l now)))) _ _ st.T st.L;rw[this];exact R8
 ·show st.j.set n (some (jE lY l now))=wj (ws.set n (some (b,jE lY l now)));rw[Aq,←e1]
 ·have hkn:(st.j.set n (some (jE lY l now)))[k]?=some (some jn):=hkn;rw[List.getElem?_set] at hkn;split at hkn
  ·split at hkn
   ·cases hkn
    exact⟨ZA,by omega⟩
   ·cases hkn
  ·exact e4 k jn hkn
end
structure O9(h0:Heap)(nF:Nat→Nat)(h:Heap)(col:Nat→Nat)(r J:Nat)(T:List Tk)(tv gv:AV)(gs:List (Nat×Int)):Prop where
 r0:h0.next≤r
 lt:r<h.next
 co:col r=1
 get:h.get r=some (.cells [tv,gv,.aP,.aP,.sl J 0 T.length T.length false] true 0)
 jl:J<h.next
 jc:col J=4
 jg:h.get J=some (.cells (List.replicate T.length .aP) true 0)
 An:Th h col tv T
 row:(gs=[]∧gv=.aK)∨∃G,gv=.sl G 0 gs.length gs.length true∧G<h.next∧(h0.next≤G∧col G=5)∧h.get G=some (.cells (gs.map fun g=>.ptr g.1 0) true 1)
 all:∀i g t,gs[i]?=some g→T[i]?=some t→t.p≠0∧g.1<h.next∧col g.1=20+i∧h.get g.1=some (gB t.p g.2)
 z:gs.map Prod.snd=List.replicate gs.length 0
 kc:Kc h0 h nF col (fun _=>False)
section
variable {h0 h h':Heap} {nF col aB:Nat→Nat} {r J:Nat} {T:List Tk} {tv gv:AV} {gs:List (Nat×Int)}
theorem O9.keep(S:O9 h0 nF h col r J T tv gv gs)(f:Kc h h' col aB (fun _=>False)):O9 h0 nF h' aB r J T tv gv gs:=by
 refine⟨S.r0,Nat.lt_of_lt_of_le S.lt f.next,(f.col r S.lt).trans S.co,(f.keep r S.lt id).trans S.get,Nat.lt_of_lt_of_le S.jl f.next,(f.col J S.jl).trans S.jc,(f.keep J S.jl id).trans S.jg,S.An.keep f id,?_,fun i g t hg ht=>?_,S.z,S.kc.trans f⟩
 ·rcases S.row with h|⟨G,h1,h2,h3,h4⟩
  ·exact .inl h
  ·exact .inr ⟨G,h1,Nat.lt_of_lt_of_le h2 f.next,⟨h3.1,(f.col G h2).trans h3.2⟩,(f.keep G h2 id).trans h4⟩
 ·obtain⟨h1,h2,h3,h4⟩:=S.all i g t hg ht;exact⟨h1,Nat.lt_of_lt_of_le h2 f.next,(f.col _ h2).trans h3,(f.keep _ h2 id).trans h4⟩
theorem O9.app(S:O9 h0 nF h col r J T tv gv gs)(hl:gs.length≤4)(g:Nat):
  ∃v' g' G,eV (.append 1 8) [gv,.sl h.next 0 1 1 false] (h.new (.cells [.ptr g 0] true 0))=some (v',g')∧v'=.sl G 0 (gs.length+1) (gs.length+1) true∧h.next≤G∧G<g'.next∧
   g'.get G=some (.cells ((gs.map fun g=>.ptr g.1 0)++[.ptr g 0]) true 1)∧h.next≤g'.next∧∀c,c<h.next→(c<h0.next∨col c≠5)→g'.get c=h.get c:=by
 have hsrc:dm 1 (h.new (.cells [.ptr g 0] true 0)) (.sl h.next 0 1 1 false)=some (1,[.ptr g 0]):=qk ai rfl;rcases S.row with⟨h1,h2⟩|⟨G,h1,h2,h3,h4⟩
 ·subst h1 h2;refine⟨_,_,h.next+1,mT (by omega) hsrc rfl,rfl,by omega,Nat.lt_succ_self _,?_,by show h.next≤h.next+1+1;omega,fun c hc _=>?_⟩
  ·exact ai (h:=h.new (.cells [.ptr g 0] true 0))
  ·exact(az (h:=h.new (.cells [.ptr g 0] true 0)) (show c<h.next+1 by omega)).trans (az hc)
 ·subst h1;have hg:(h.new (.cells [.ptr g 0] true 0)).get G=some (.cells (gs.map fun g=>.ptr g.1 0) true 1):=by rw[az h2];exact h4
  refine⟨_,_,h.next+1,mR hg (by rw[List.length_map,Nat.mul_one]) hsrc rfl (by omega) (by omega),rfl,by omega,Nat.lt_succ_self _,?_,by show h.next≤h.next+1+1;omega,fun c hc hn=>?_⟩
  ·exact ai (h:=(h.new (.cells [.ptr g 0] true 0)).del G)
  ·have hne:c≠G:=by
    rintro rfl;rcases hn with h|h
    ·have:=h3.1;omega
    ·exact h h3.2
   exact(az (h:=(h.new (.cells [.ptr g 0] true 0)).del G) (show c<h.next+1 by omega)).trans ((ep hne).trans (az hc))
theorem Ob{k r J B:Nat}{Q:AX→Env→Heap→Prop}(hok:∀t∈T,1≤t.p∧t.p≤64)(hT:T.length≤4)
  (hQ:∀h col gv gs e,O9 h0 nF h col r J T tv gv gs→gs.length=T.length→dr e [(0,.fz k (eP T)),(4,.ptr r 0)]→Q (.exit 0) e h):
  ∀(m i:Nat) (h:Heap) (col:Nat→Nat) (gv:AV) (gs:List (Nat×Int)) (env:Env),T.length-i=m→i≤T.length→gs.length=i→O9 h0 nF h col r J T tv gv gs→
   dr env [(0,.fz k (eP T)),(4,.ptr r 0),(5,.int .i64 ((i:Nat):Int))]→VC fs ms B false (.loop iX) env h Q:=by
 intro m;induction m using Nat.strongRecOn with
 |ind m ih=>
 intro i h col gv gs env hm hi hg S dF;refine aG 6 _ dF ?_;refine dH (z:=true) ?_;conv=>whnf
 rw[bq];conv=>whnf
 refine br (fun hc=>?_) (fun hc=>?_)<;>(try rw[hc])<;>(conv=>whnf)
 ·have hlt:i<T.length:=by have:=of_decide_eq_true hc;omega
  conv=>whnf
  refine⟨_,kB hlt,?_⟩;conv=>whnf
  obtain⟨t,ht⟩:∃t,t=T[i]:=⟨_,rfl⟩;have Uj:T[i]?=some t:=by rw[ht];exact List.getElem?_eq_getElem hlt
  have hp:=hok t (by rw[ht];exact List.getElem_mem _);rw[←ht];refine⟨.int .i64 t.p,rfl,?_⟩;conv=>whnf
  refine Ok (fun _=>?_) (fun h=>(h hp).elim);conv=>whnf
  have ey:Fr h (h.new (gB t.p 0)) []:=(Fr.refl h []).new;have sY:=ai (h:=h) (x:=gB t.p 0);have sq:h.next<(h.new (gB t.p 0)).next:=Nat.lt_succ_self _
  have Pq:bZ col h.next (20+i) h.next=20+i:=cz (Nat.le_refl _);have S2:=S.keep (Kc.nil (col:=col) ey (20+i));generalize h.new (gB t.p 0)=h2 at*;generalize bZ col h.next (20+i)=iR at*;generalize h.next=gn at*;refine⟨_,aS S2.get rfl,?_⟩;conv=>whnf
  obtain⟨v',g',G,a1,rfl,a2,a3,a4,a5,a6⟩:=S2.app (by omega) gn;refine⟨_,_,a1,?_⟩;conv=>whnf
  have xD:g'.get r=some (.cells [tv,gv,.aP,.aP,.sl J 0 T.length T.length false] true 0):=(a6 r S2.lt (.inr (by rw[S2.co];decide))).trans S2.get;refine⟨_,_,bp xD rfl (yB rfl) rfl,?_⟩;conv=>whnf
  have YB:G≠r:=by have:=S2.lt;omega
  have YC:J≠r:=by intro e;have:=S2.jc;rw[e,S2.co] at this;omega
  obtain⟨h3,e3⟩:∃g,g=(g'.set r (.cells (Heap.splice [tv,gv,.aP,.aP,.sl J 0 T.length T.length false] (0+1) (AV.sl G 0 (gs.length+1) (gs.length+1) true).cells) true 0)):=⟨_,rfl⟩;have x3:h3.next=g'.next:=by rw[e3];rfl
  have g3:h3.get r=some (.cells [tv,.sl G 0 (gs.length+1) (gs.length+1) true,.aP,.aP,.sl J 0 T.length T.length false] true 0):=by rw[e3];exact au
  have o3:∀c,c<h2.next→c≠r→(c<h0.next∨iR c≠5)→h3.get c=h2.get c:=fun c hc hn h5=>by rw[e3,aW hn];exact a6 c hc h5
  have gG:h3.get G=g'.get G:=by rw[e3,aW YB]
  rw[←e3];clear e3;refine ih (T.length-(i+1)) (by omega) (i+1) h3 (bZ iR h2.next 5) (.sl G 0 (gs.length+1) (gs.length+1) true) (gs++[(gn,0)]) _ rfl (by omega) (by simp[hg]) ⟨S2.r0,by have:=S2.lt;omega,(bN S2.lt).trans S2.co,?_,by have:=S2.jl;omega,(bN S2.jl).trans S2.jc,?_,?_,?_,fun n g u hn hu=>?_,?_,?_⟩ ⟨rfl,rfl,aJ (by omega),trivial⟩
  ·exact g3
  ·exact(o3 J S2.jl YC (.inr (by rw[S2.jc];decide))).trans S2.jg
  ·refine S2.An.keep (K:=fun n=>n=1∨n=5) ⟨by omega,fun c hc hn=>o3 c hc (fun e=>hn (.inl (by rw[e,S2.co]))) (.inr fun e=>hn (.inr e)),fun c hc=>bN hc⟩ (by decide)
  ·refine .inr ⟨G,by rw[List.length_append];rfl,by omega,⟨Nat.le_trans S2.kc.next a2,cz a2⟩,?_⟩;rw[List.map_append];exact gG.trans a4
  ·have key:∀(n:Nat) (g:Nat×Int) (u:Tk),(u.p≠0∧g.1<h2.next∧iR g.1=20+n∧h2.get g.1=some (gB u.p g.2))→u.p≠0∧g.1<h3.next∧bZ iR h2.next 5 g.1=20+n∧h3.get g.1=some (gB u.p g.2):=by
    rintro n g u ⟨h1,h2,h3,h4⟩;have hne:g.1≠r:=by intro e;rw[e,S2.co] at h3;omega
    exact⟨h1,by omega,(bN h2).trans h3,(o3 _ h2 hne (.inr (by omega))).trans h4⟩
   by_cases e:n<gs.length
   ·rw[List.getElem?_append_left e] at hn;exact key n g u (S2.all n g u hn hu)
   ·rw[List.getElem?_append_right (by omega)] at hn;have e0:n-gs.length=0:=by
     have:=(List.getElem?_eq_some_iff.1 hn).1;simp at this;omega
    rw[e0] at hn;cases hn
    have en:n=i:=by omega
    subst en;rw[Uj] at hu;cases hu
    exact key n (gn,0) t ⟨by omega,sq,Pq,sY⟩
  ·rw[List.map_append,S2.z,List.length_append];exact(List.replicate_succ' ..).symm
  ·refine⟨by have:=S2.kc.next;omega,fun c hc hn=>?_,fun c hc=>(bN (Nat.lt_of_lt_of_le hc S2.kc.next)).trans (S2.kc.col c hc)⟩;have hne:c≠r:=by have:=S2.r0;omega
   exact(o3 c (Nat.lt_of_lt_of_le hc S2.kc.next) hne (.inl hc)).trans (S2.kc.keep c hc id)
 ·have hge:i=T.length:=by have:=of_decide_eq_false hc;omega
  exact hQ _ _ _ _ _ S (by omega) ⟨rfl,rfl,trivial⟩
theorem MB{h:Heap}{k:Nat}(hT:T.length≤4):∃b op g',eV (.append 8 64) [.sl h.next 0 0 0 false,.fz k (eP T)] (h.new (.cells [] true 0))=some (.sl b 0 T.length T.length op,g')∧DM g' (.sl b 0 T.length T.length op) T∧Fr h g' []∧h.next≤b:=by
 have lf:Fr h (h.new (.cells [] true 0)) []:=(Fr.refl h []).new;cases T with
 |nil=>
  refine⟨_,_,_,vu rfl rfl,.inl ⟨rfl,.inr ⟨h.next,rfl,Nat.lt_succ_self _,ai⟩⟩,lf,Nat.le_refl _⟩
 |cons t T=>
  refine⟨_,_,_,zg (n:=T.length) ai (by decide) (by simp at hT;omega) (by rw[rM (iu _),bq];rfl) (tC _),?_,lf.new,Nat.le_succ _⟩;refine .inr ⟨h.next+1,true,rfl,Nat.lt_succ_self _,?_⟩;exact ai (h:=h.new (.cells [] true 0))
theorem EK{Q:AV→Heap→Prop}(k:Nat)(hT:T.length<2^62)
  (h0:cg T=false→Q (.cn [.aP,.int .i64 2]) h)
  (h1:cg T=true→∀h' aB m,RC h' aB m ⟨T,[],List.replicate T.length none,List.replicate T.length 0⟩→Kc h h' col aB (fun _=>False)→Q (.cn [.ptr m 0,.int .i64 0]) h'):VD fs ms 16 [.fz k (eP T)] h Q:=by
 refine bX (af:=U1) rfl (yB rfl) ?_;conv=>whnf
 refine aE true ?_;conv=>whnf
 refine bt (aE true ?_);conv=>whnf
 refine aQ (B3 k T (by omega)) ?_;conv=>whnf
 by_cases hto:cg T=true
 rotate_left
 ·have hto:cg T=false:=by simpa using hto
  rw[hto];refine gW (an (z:=true) ?_);conv=>whnf
  exact h0 hto
 rw[hto];refine gW (an (z:=true) ?_);conv=>whnf
 have h4:=nG hto;refine bt (an (z:=true) ?_);conv=>whnf
 obtain⟨b,op,g1,a1,R1,dy,o1⟩:=MB (k:=k) (h:=h) h4;refine⟨_,_,a1,?_⟩;conv=>whnf
 rw[bq];refine⟨_,_,Je h4,?_⟩;conv=>whnf
 refine bt (aE true ?_);conv=>whnf
 refine bw ?_;obtain⟨vP,sW⟩:∃g,g=g1.new (.cells (List.replicate T.length .aP) true 0):=⟨_,rfl⟩;obtain⟨CS,xu⟩:∃g,g=vP.new (.cells [.sl b 0 T.length T.length op,.aK,.aP,.aP,.sl g1.next 0 T.length T.length false] true 0):=⟨_,rfl⟩;have n1:=dy.next;have n2:vP.next=g1.next+1:=by rw[sW];rfl
 have n3:CS.next=vP.next+1:=by rw[xu];rfl
 have gJ:CS.get g1.next=some (.cells (List.replicate T.length .aP) true 0):=by rw[xu,az (by omega),sW];exact ai
 have gr:CS.get vP.next=some (.cells [.sl b 0 T.length T.length op,.aK,.aP,.aP,.sl g1.next 0 T.length T.length false] true 0):=by rw[xu];exact ai
 have FI:Fr g1 CS []:=by rw[xu,sW];exact((Fr.refl g1 []).new).new
 have gx:Fr h CS []:=dy.trans FI;have R3:=R1.keep FI (by simp);have blt:b<g1.next:=(R1.lt b (by simp[dM])).1;have Q0:∀t∈T,1≤t.p∧t.p≤64:=by
  have Um:=hto;rw[cg,Bool.and_eq_true,List.all_eq_true] at Um;intro t ht;have:=Um.1 t ht;simp only[iE,decide_eq_true_eq] at this;omega
 have S0:O9 h col CS (bZ (bZ (bZ col h.next 6) g1.next 4) vP.next 1) vP.next g1.next T (.sl b 0 T.length T.length op) .aK []:=by
  refine⟨by omega,by omega,cz (Nat.le_refl _),gr,by omega,by rw[bN (by omega),cz (Nat.le_refl _)],gJ,⟨R3,fun d hd=>?_⟩,.inl ⟨rfl,rfl⟩,fun i g t hg=>by simp at hg,rfl,⟨gx.next,fun c hc _=>gx.keep c hc (by simp),fun c hc=>by rw[bN (by omega),bN (by omega),bN hc]⟩⟩;have:d=b:=by simpa[dM] using hd
  subst this;rw[bN (by omega),bN (by omega),cz o1]
 subst xu;subst sW;refine Ob (h0:=h) (nF:=col) Q0 h4 ?_ T.length 0 _ _ _ [] _ rfl (Nat.zero_le _) rfl S0 ⟨rfl,rfl,rfl,trivial⟩;intro h5 mV gv gs e5 S sq Nh;clear S0 gr gJ n2 n3 gx FI R3 n1 blt;generalize(g1.new (.cells (List.replicate T.length .aP) true 0)).next=r at S Nh
 generalize g1.next=J at S;refine aG 6 _ Nh (an (z:=true) ?_);conv=>whnf
 rw[bq];refine RJ ((T.length:Nat):Int) (fun h=>by omega) fun i hi _ h6 q qb qes SU M hq1 hq2 CO=>?_;have hi':i=T.length:=by omega
 subst hi';have f6:Kc h5 h6 mV (bZ mV h5.next 3) (fun _=>False):=Kc.nil CO 3;have c1:bZ mV h5.next 3 q=3:=cz hq1;have c2:bZ mV h5.next 3 qb=3:=cz hq2;have S6:=S.keep f6;generalize bZ mV h5.next 3=col6 at*;conv=>whnf
 refine OC h4 fun h7 s stv ST rQ uN Pg=>?_;have f7:Kc h6 h7 col6 (bZ col6 h6.next 2) (fun _=>False):=Kc.nil Pg 2;have d1:bZ col6 h6.next 2 s=2:=cz rQ;have d2:∀d,d∈dM stv→bZ col6 h6.next 2 d=2:=fun d hd=>cz (uN d hd);have S7:=S6.keep f7;have Q7:Ax h7 (bZ col6 h6.next 2) q (rep T.length):=Ax.keep ⟨qb,qes,SU,M,c1,c2⟩ f7 id;have K7:Cs h7 (bZ col6 h6.next 2) s T []:=⟨stv,.aK,ST,d1,d2,by simp[dM]⟩;generalize bZ col6 h6.next 2=col7 at*;conv=>whnf
 refine bV (bp S7.get rfl (yB rfl) rfl) fun h8 e8=>?_;conv=>whnf
 replace e8:h8=h7.set r (.cells [.sl b 0 T.length T.length op,gv,.ptr q 0,.aP,.sl J 0 T.length T.length false] true 0):=e8;have g8:h8.get r=some (.cells [.sl b 0 T.length T.length op,gv,.ptr q 0,.aP,.sl J 0 T.length T.length false] true 0):=by rw[e8];exact au
 have KG:Fr h7 h8 [r]:=by rw[e8];exact(Fr.refl _ _).set (by simp)
 clear e8;refine bV (bp g8 rfl (yB rfl) rfl) fun h9 e9=>?_;conv=>whnf
 replace e9:h9=h8.set r (.cells [.sl b 0 T.length T.length op,gv,.ptr q 0,.ptr s 0,.sl J 0 T.length T.length false] true 0):=e9;have g9:h9.get r=some (.cells [.sl b 0 T.length T.length op,gv,.ptr q 0,.ptr s 0,.sl J 0 T.length T.length false] true 0):=by rw[e9];exact au
 have D5:Fr h7 h9 [r]:=by rw[e9];exact KG.trans ((Fr.refl _ _).set (by simp))
 clear e9;have kc:=S7.kc;have r0:=S7.r0;have f9:Kc h7 h9 col7 col7 (· =1):=⟨D5.next,fun c hc hn=>D5.keep c hc (by simp;intro e;exact hn (by rw[e];exact S7.co)),fun _ _=>rfl⟩;have BZ:r<h9.next:=Nat.lt_of_lt_of_le S7.lt D5.next;have hrj:J≠r:=by intro e;have:=S7.jc;rw[e,S7.co] at this;omega
 refine h1 hto h9 col7 r ⟨s,q,J,_,gv,List.replicate T.length none,gs,⟨h4,List.length_replicate,sq,⟨BZ,S7.co,by rw[List.length_replicate];exact g9⟩,S7.An.keep f9 (by decide),K7.keep f9 (by decide),?_,⟨Nat.lt_of_lt_of_le S7.jl D5.next,S7.jc,?_⟩,fun i w hw=>?_,?_⟩,?_,?_,fun i j hj=>?_⟩ ⟨by have:=kc.next;have:=D5.next;omega,fun c hc _=>(D5.keep c (by have:=kc.next;omega) (by simp;omega)).trans (kc.keep c hc id),kc.col⟩
 ·rw[show dQ (List.replicate T.length (none:Option Jb))=rep T.length from List.map_replicate ..];exact Q7.keep f9 (by decide)
 ·rw[D5.keep J S7.jl (by simpa using hrj),S7.jg,List.map_replicate,List.map_replicate];rfl
 ·rw[List.getElem?_replicate] at hw;split at hw<;>cases hw
 ·refine⟨?_,fun i g t hg ht=>?_⟩
  ·rcases S7.row with⟨h,_⟩|⟨G,a1,a2,a3,a4⟩
   ·exact .inl h
   ·exact .inr ⟨G,_,_,a1,Nat.lt_of_lt_of_le a2 D5.next,a3.2,(f9.keep G a2 (by rw[a3.2];decide)).trans a4⟩
  ·obtain⟨a1,a2,a3,a4⟩:=S7.all i g t hg ht;exact⟨a1,Nat.lt_of_lt_of_le a2 D5.next,a3,(f9.keep _ a2 (by rw[a3];omega)).trans a4⟩
 ·rw[wj,List.map_replicate];rfl
 ·rw[S7.z,sq]
 ·have hj:(List.replicate T.length none)[i]?=some (some j):=hj;rw[List.getElem?_replicate] at hj;split at hj<;>cases hj
theorem CF(T:List Tk):dA T (List.replicate T.length 0)=if cg T then 0 else 2:=by
 have h1:(List.replicate T.length (0:Int)).any mw=false:=by
  rw[List.any_eq_false];intro x hx;rw[(List.mem_replicate.1 hx).2];decide
 rw[dA,h1,List.length_replicate];cases cg T<;>simp
end
def Pb{α:Type}(st:St)(t:Int)(z:α)(f:Jb→α):α:=if lW st.T st.j t≠0 then z else match st.j[t.toNat]? with
 |some (some j)=>f j
 |_=>z
theorem oI{α:Type}{st:St}{t:Int}{z:α}{f:Jb→α}(h:lW st.T st.j t≠0):Pb st t z f=z:=if_pos h
theorem oH{α:Type}{st:St}{i:Nat}{j:Jb}{z:α}{f:Jb→α}(hl:i<st.T.length)(h:st.j[i]?=some (some j)):Pb st i z f=f j:=by
 unfold Pb;rw[if_neg (by rw[gO hl h];simp),Int.toNat_natCast,h]
def NR(st:St)(t:Int):Op×Bool:=Pb st t (s7,false) fun j=>(j.l.headD s7,!j.l.isEmpty)
def MZ(st:St)(t:Int):Int×Bool:=Pb st t (0,false) fun j=>(j.e,true)
def SH(st:St)(t now:Int):Int:=Pb st t 0 fun j=>rq j now
def KK(st:St)(t:Int):List Int:=Pb st t [] fun _=>bx st.L t
section
variable {h h':Heap} {col:Nat→Nat} {r m:Nat} {st:St} {Q:AV→Heap→Prop} {t now:Int}
theorem Oe(R:RC h col m st){i:Nat}{j:Jb}(hj:st.j[i]?=some (some j)):i<st.T.length:=by
 obtain⟨s,q,J,tv,gv,ws,gs,R,e1,e2,e4⟩:=R;have:=(List.getElem?_eq_some_iff.1 hj).1;rw[e1,wj,List.length_map,R.tl] at this;exact this
theorem N4(R:RA h col r st)(hQ:∀h',Fr h h' []→Q (.cn [op (NR st t).1,.bool (NR st t).2]) h'):VD fs ms 35 [.ptr r 0,.int .i64 t] h Q:=
 Ov R (fun hn h' fr=>by have:=hQ h' fr;rw[NR,oI hn] at this;exact this) fun i j ht hj h' fr=>by subst ht;have:=hQ h' fr;rw[NR,oH (BZ R hj) hj] at this;exact this
theorem MH(R:RC h col m st)(hQ:∀h',Fr h h' []→Q (.cn [op (NR st t).1,.bool (NR st t).2]) h'):VD fs ms 74 [.ptr m 0,.int .i64 t] h Q:=
 JG R (fun hn h' fr=>by have:=hQ h' fr;rw[NR,oI hn] at this;exact this) fun i j ht hj h' fr=>by subst ht;have:=hQ h' fr;rw[NR,oH (Oe R hj) hj] at this;exact this
theorem NW(R:RA h col r st)(hQ:Q (.cn [.int .i64 (MZ st t).1,.bool (MZ st t).2]) h):VD fs ms 13 [.ptr r 0,.int .i64 t] h Q:=
 Og R (fun hn=>by rw[MZ,oI hn] at hQ;exact hQ) fun i j ht hj=>by subst ht;rw[MZ,oH (BZ R hj) hj] at hQ;exact hQ
theorem MC(R:RC h col m st)(hQ:Q (.cn [.int .i64 (MZ st t).1,.bool (MZ st t).2]) h):VD fs ms 75 [.ptr m 0,.int .i64 t] h Q:=
 Jy R (fun hn=>by rw[MZ,oI hn] at hQ;exact hQ) fun i j ht hj=>by subst ht;rw[MZ,oH (Oe R hj) hj] at hQ;exact hQ
theorem Jp(R:RA h col r st)(hQ:∀h',Fr h h' []→Q (.int .i64 (SH st t now)) h'):VD fs ms 32 [.ptr r 0,.int .i64 t,.int .i64 now] h Q:=
 JS R (fun hn=>by have:=hQ h (Fr.refl _ _);rw[SH,oI hn] at this;exact this) fun i j ht hj h' fr=>by subst ht;have:=hQ h' fr;rw[SH,oH (BZ R hj) hj] at this;exact this
theorem Hv(R:RC h col m st)(hQ:∀h',Fr h h' []→Q (.int .i64 (SH st t now)) h'):VD fs ms 76 [.ptr m 0,.int .i64 t,.int .i64 now] h Q:=
 Gq R (fun hn=>by have:=hQ h (Fr.refl _ _);rw[SH,oI hn] at this;exact this) fun i j ht hj h' fr=>by subst ht;have:=hQ h' fr;rw[SH,oH (Oe R hj) hj] at this;exact this
theorem RW(R:RA h col r st)(hL:st.L.length≤1000)(hQ:∀h' v,fI h.next h' v (KK st t)→Fr h h' []→Q v h'):VD fs ms 14 [.ptr r 0,.int .i64 t] h Q:=
 Om R hL (fun hn=>hQ h .aK (by rw[KK,oI hn];exact .inl ⟨rfl,rfl⟩) (Fr.refl _ _)) fun i j ht hj h' v hr fr=>by subst ht;exact hQ h' v (by rw[KK,oH (BZ R hj) hj];exact hr) fr
theorem MD(R:RC h col m st)(hL:st.L.length≤1000)(hQ:∀h' v,(∃k,nu (fun _=>True) h' v (.fz k (ints (KK st t))))→Fr h h' []→Q v h'):VD fs ms 78 [.ptr m 0,.int .i64 t] h Q:=
 JC R hL (fun hn=>hQ h .aK (by rw[KK,oI hn];exact⟨3,.aK⟩) (Fr.refl _ _)) fun i j ht hj h' v hr fr=>by
  subst ht;refine hQ h' v ?_ fr;rw[KK,oH (Oe R hj) hj];rcases hr with⟨h1,rfl⟩|⟨hne,b,h1,h2,rfl,h4⟩
  ·rw[h1];exact⟨3,.aK⟩
  ·exact⟨0,vK trivial h4 rfl (qj _) (by rfl) (bR _)⟩
theorem Eh:(KK st t).length≤st.L.length:=by
 unfold KK Pb;split
 ·exact Nat.zero_le _
 ·split
  ·exact vX _ _
  ·exact Nat.zero_le _
theorem fI.Qu{lo:Nat}{h:Heap}{v:AV}{l:List Int}(hr:fI lo h v l):∃k,nu (fun _=>True) h v (.fz k (ints l)):=by
 rcases hr with⟨rfl,rfl⟩|⟨b,h1,h2,rfl,h4⟩
 ·exact⟨3,.aK⟩
 ·exact⟨0,vK trivial h4 (mY l).symm (qj l) (bH l).symm (bR l)⟩
theorem fI.ZG{lo:Nat}{h:Heap}{v:AV}{l:List Int}(hr:fI lo h v l){i:Nat}(hi:i<l.length)(x:Int):∃b,pV (.ay 1) [v,.int .i64 ((i:Nat):Int)]=some (.ptr b (i*1))∧∃h',eV (.store 1) [.ptr b (i*1),.int .i64 x] h=some (.undef,h')∧fI lo h' v (l.set i x)∧h'.next=h.next∧∀c,c<lo→h'.get c=h.get c:=by
 rcases hr with⟨rfl,rfl⟩|⟨b,h1,h2,rfl,h4⟩
 ·simp at hi
 ·refine⟨b,aH hi,_,bp (n:=1) (v:=.int .i64 x) h4 rfl (by rw[bH,Nat.mul_one];exact hi) rfl,.inr ⟨b,h1,h2,by rw[List.length_set],?_⟩,rfl,fun c hc=>aW (by omega)⟩;rw[au];have:=ints_set hi x;exact congrArg (fun z=>some (dD.cells z true 1)) this
theorem Sw{lo:Nat}{h0:Heap}{v:AV}{N:Nat}{B:Nat}{Q:AX→Env→Heap→Prop}(hlo:h0.next≤lo)(hN:N≤1000):
  ∀(k i:Nat) (h:Heap) (l:List Int) (env:Env),N-i=k→i≤N→l.length=N→fI lo h v l→Fr h0 h []→dr env [(0,.ptr r 0),(1,.ptr m 0),(2,.int .i64 now),(17,.int .i64 t),(26,v),(27,.int .i64 ((i:Nat):Int))]→
  (∀(h':Heap) (e':Env),dr e' [(0,.ptr r 0),(1,.ptr m 0),(2,.int .i64 now),(17,.int .i64 t)]→Fr h0 h' []→Q (.exit 2) e' h')→
  VC fs ms B false (.loop iG) env h Q:=by
 intro k;induction k using Nat.strongRecOn with
 |ind k ih=>
 intro i h l env hk hi hl hr lf dF hQ;refine aG 6 _ dF ?_;refine dH (z:=true) ?_;conv=>whnf
 refine qa hr.read.1 ?_;conv=>whnf
 refine br (fun hc=>?_) (fun hc=>?_)<;>(try rw[hc])<;>(conv=>whnf)
 ·have hlt:i<l.length:=by have:=of_decide_eq_true hc;omega
  obtain⟨b,p1,h1,p2,p3,p4,p5⟩:=hr.ZG hlt (-1);refine⟨_,p1,?_⟩;conv=>whnf
  refine bV p2 fun uU e1=>?_;subst e1;conv=>whnf
  refine ih (N-(i+1)) (by omega) (i+1) uU _ _ rfl (by omega) (by rw[List.length_set];exact hl) p3 ⟨by have:=lf.next;omega,fun c hc _=>by rw[p5 c (by omega)];exact lf.keep c hc (by simp)⟩ ⟨rfl,rfl,rfl,rfl,rfl,aJ (by omega),trivial⟩ hQ
 ·exact hQ h _ ⟨rfl,rfl,rfl,rfl,trivial⟩ lf
set_option smartUnfolding true in
theorem NU(o:Op):pV (.neq (.cells [0,0,2])) [op o,op o]=some (.bool false):=by
 simp[pV,op,Ci,gu,ug]
theorem fT(a:Int):(a !=a)=false:=by simp
theorem fS(a:Bool):(a !=a)=false:=by simp
theorem not_bne(a:Bool):(!(a==a))=false:=by simp
theorem OY{h0:Heap}{B:Nat}{Q:AX→Env→Heap→Prop}(R0:RA h0 col r st)(M0:RC h0 (sh col) m st)(hL:st.L.length≤900)(hQ:∀h e,Fr h0 h []→Q (.exit 0) e h):
  ∀(k:Nat) (h:Heap) (t:Int) (env:Env),(5-t).toNat=k→-1≤t→Fr h0 h []→dr env [(0,.ptr r 0),(1,.ptr m 0),(2,.int .i64 now),(17,.int .i64 t)]→VC fs ms B false (.loop iF) env h Q:=by
 intro k;induction k using Nat.strongRecOn with
 |ind k ih=>
 intro h t env hk ht fr dF;refine aG 6 _ dF ?_;refine cS (aE true ?_);conv=>whnf
 refine br (fun hc=>?_) (fun hc=>?_)<;>(try rw[hc])<;>(conv=>whnf)
 rotate_left
 ·exact hQ _ _ fr
 have hlt:t<5:=of_decide_eq_true hc;refine bt (bw (aE true ?_));have R:=R0.nil fr;conv=>whnf
 obtain⟨nx,jQ⟩:∃x,NR st t=x:=⟨_,rfl⟩;obtain⟨dl,TW⟩:∃x,MZ st t=x:=⟨_,rfl⟩;refine N4 R fun h1 dy=>?_;rw[jQ];conv=>whnf
 refine bV (bp ai rfl (Nat.le_refl _) rfl) fun h2 e2=>?_;have ey:Fr h0 h2 []:=by rw[e2];exact((fr.trans dy).new (x:=_)).kf (fr.trans dy).next
 have g2:h2.get h1.next=some (.cells (op nx.1).cells true 0):=by rw[e2];exact au
 have n2:h1.next<h2.next:=by rw[e2];exact Nat.lt_succ_self _
 clear e2;generalize h1.next=b1 at*;conv=>whnf
 refine aE true ?_;conv=>whnf
 refine MH (M0.nil ey) fun h3 gx=>?_;rw[jQ];conv=>whnf
 refine bV (bp ai rfl (Nat.le_refl _) rfl) fun h4 e4=>?_;have jJ:Fr h2 h4 []:=by rw[e4];exact(gx.new (x:=_)).kf gx.next
 have g4:h4.get h3.next=some (.cells (op nx.1).cells true 0):=by rw[e4];exact au
 have n4:h3.next<h4.next:=by rw[e4];exact Nat.lt_succ_self _
 clear e4;have KH:h4.get b1=some (.cells (op nx.1).cells true 0):=(jJ.keep b1 n2 (by simp)).trans g2;have n2':=Nat.lt_of_lt_of_le n2 jJ.next;generalize h3.next=b3 at*;conv=>whnf
 refine aE true ?_;conv=>whnf
 have CN:=ey.trans jJ;refine NW (R0.nil CN) ?_;rw[TW];conv=>whnf
 refine aE true ?_;conv=>whnf
 refine MC (M0.nil CN) ?_;rw[TW];conv=>whnf
 refine aE true ?_;conv=>whnf
 refine RW (R0.nil CN) (by omega) fun h6 v hr CO=>?_;conv=>whnf
 have Pg:=CN.trans CO;refine aE true ?_;conv=>whnf
 refine⟨_,Ads.uZ (n:=3) ((CO.keep b1 n2' (by simp)).trans KH) (Nat.le_refl _),?_⟩;conv=>whnf
 refine⟨_,Ads.uZ (n:=3) ((CO.keep b3 n4 (by simp)).trans g4) (Nat.le_refl _),?_⟩;conv=>whnf
 refine qa (NU nx.1) ?_;conv=>whnf
 repeat(refine nC (by first|exact not_bne _|exact fT _|exact fS _) (fun hc=>?_);(try rw[hc]);conv=>whnf)
 refine Jp (R0.nil Pg) fun h8 Z0=>?_;have KG:=Pg.trans Z0;conv=>whnf
 repeat(refine nC (by first|exact not_bne _|exact fT _|exact fS _) (fun hc=>?_);(try rw[hc]);conv=>whnf)
 refine Hv (M0.nil KG) fun h9 Z1=>?_;have D5:=KG.trans Z1;conv=>whnf
 repeat(refine nC (by first|exact not_bne _|exact fT _|exact fS _) (fun hc=>?_);(try rw[hc]);conv=>whnf)
 refine NY (R0.nil D5) ?_;conv=>whnf
 repeat(refine nC (by first|exact not_bne _|exact fT _|exact fS _) (fun hc=>?_);(try rw[hc]);conv=>whnf)
 refine Jz (M0.nil D5) ?_;conv=>whnf
 repeat(refine nC (by first|exact not_bne _|exact fT _|exact fS _) (fun hc=>?_);(try rw[hc]);conv=>whnf)
 refine MD (M0.nil D5) (by omega) fun ha v2 f2 Z2=>?_;obtain⟨k2,f2⟩:=f2;have fra:=D5.trans Z2;have hrA:=hr.keep ((Z0.trans Z1).trans Z2);conv=>whnf
 repeat(refine nC (by first|exact not_bne _|exact fT _|exact fS _) (fun hc=>?_);(try rw[hc]);conv=>whnf)
 obtain⟨k1,f1⟩:=hrA.Qu;refine fQ (uf k1 k2 (KK st t) (by have:=Eh (st:=st) (t:=t);omega)) rfl (.cons f1 (.cons f2 .nil)) ?_;conv=>whnf
 repeat(refine nC (by first|exact not_bne _|exact fT _|exact fS _) (fun hc=>?_);(try rw[hc]);conv=>whnf)
 refine bt (an (z:=true) ?_);conv=>whnf
 refine bw ?_;refine Sw (r:=r) (m:=m) (h0:=h0) (now:=now) (t:=t) (N:=(KK st t).length) (lo:=h4.next) CN.next (by have:=Eh (st:=st) (t:=t);omega) _ 0 ha _ _ rfl (Nat.zero_le _) rfl hrA fra ⟨rfl,rfl,rfl,rfl,rfl,rfl,trivial⟩ ?_;intro hb eb sX frb;show VC fs ms _ _ _ _ _ _;refine aG 6 _ sX (an (z:=true) ?_);conv=>whnf
 refine ih (5-(t+1)).toNat (by omega) hb (t+1) _ rfl (by omega) frb ⟨rfl,rfl,rfl,?_,trivial⟩;show some (AV.int .i64 (IntKind.i64.wrap (t+1)))=some (AV.int .i64 (t+1));rw[IntWalk.i64_in _ (by omega)]
theorem Ah{b o n:Nat}(h:b<n)(x:Bool):(x||rJ n [.ptr b o])=true:=by
 rw[rJ,DA,Nat.ble_eq_true_of_le h];simp[rJ]
theorem OX{Q:AV→Heap→Prop}(R:RA h col r st)(M:RC h (sh col) m st)(hL:st.L.length≤900)(hQ:∀h',Fr h h' []→Q (.bool true) h'):VD fs ms 19 [.ptr r 0,.ptr m 0,.int .i64 now] h Q:=by
 refine bX (af:=U4) rfl (yB rfl) ?_;conv=>whnf
 refine aE true ?_;conv=>whnf
 refine aE true ?_;conv=>whnf
 refine Sb R hL fun a b W=>?_;conv=>whnf
 refine aE true ?_;conv=>whnf
 refine EM M hL fun h1 a' b' W' dy=>?_;obtain⟨rfl,rfl⟩:=W.uniq W';conv=>whnf
 refine aE true ?_;conv=>whnf
 refine N5 (R.nil dy) fun c d e S=>?_;conv=>whnf
 refine aE true ?_;conv=>whnf
 refine BU (M.nil dy) fun c' d' e' S'=>?_;obtain⟨rfl,rfl,rfl⟩:=S.uniq S';conv=>whnf
 refine aE true ?_;conv=>whnf
 repeat(refine nC (by first|exact not_bne _|exact fT _|exact fS _) (fun hc=>?_);(try rw[hc]);conv=>whnf)
 refine Oq (R.nil dy) fun h2 v M1 hr hm hd hs ZZ=>?_;have ey:=dy.trans ZZ;conv=>whnf
 repeat(refine nC (by first|exact not_bne _|exact fT _|exact fS _) (fun hc=>?_);(try rw[hc]);conv=>whnf)
 have M1':=M.nil dy;obtain⟨s,q,J,tv,gv,ws,gs,Tg,e1,e2,e4⟩:=M1';have RB:=Tg.nil ZZ;have he:∀(i:Nat) (j:Jb),st.j[i]?=some (some j)→0≤j.e:=fun i j hj=>(e4 i j hj).2;refine⟨_,aS RB.dB.get rfl,?_⟩;conv=>whnf
 repeat(refine nC (by first|exact not_bne _|exact fT _|exact fS _) (fun hc=>?_);(try rw[hc]);conv=>whnf)
 obtain⟨qb,es,op,MM,_⟩:=RB.z5;have hl4:(dQ st.j).length≤4:=by rw[tn,e1,wj,List.length_map,RB.tl];exact RB.n4
 refine EA MM hl4 fun h3 v3 hr3 gx=>?_;conv=>whnf
 repeat(refine nC (by first|exact not_bne _|exact fT _|exact fS _) (fun hc=>?_);(try rw[hc]);conv=>whnf)
 have hlen:=CG (dQ st.j) (dQ st.j).length;rw[FZ he hm hd hs] at hr;obtain⟨k1,f1⟩:=(hr.keep gx).Qu;obtain⟨k2,f2⟩:=hr3.Qu;refine fQ (uf k1 k2 (nl (dj (dQ st.j) (dQ st.j).length)) (by rw[mI];omega)) rfl (.cons f1 (.cons f2 .nil)) ?_;conv=>whnf
 repeat(refine nC (by first|exact not_bne _|exact fT _|exact fS _) (fun hc=>?_);(try rw[hc]);conv=>whnf)
 have jJ:=ey.trans gx;have w1:∀o,fH.r .ck=fH.r o→rV o [.ptr m (0+2)] h1=some (.ptr q 0):=fun o ho=>by cases ho;exact aS Tg.dB.get rfl
 have w2:∀o,fH.r .ck=fH.r o→rV o [.ptr m (0+2)] h2=some (.ptr q 0):=fun o ho=>by cases ho;exact aS RB.dB.get rfl
 refine⟨iM (by(conv=>whnf);repeat' (first|exact trivial|exact aS Tg.dB.get rfl|exact Ah RB.dB.lt _|exact .inl ⟨rfl,w2⟩|exact .inl ⟨rfl,w1⟩|(exact⟨rfl,rfl,.inr ⟨_,_,rfl⟩⟩)|(refine⟨rfl,rfl,.inl ⟨rfl,fun o ho=>?_⟩⟩;cases ho;first|rfl|exact aS Tg.dB.get rfl|exact Ah RB.dB.lt _|exact .inl ⟨rfl,w2⟩|exact .inl ⟨rfl,w1⟩)|(exact⟨rfl,.inr ⟨_,_,rfl⟩⟩)|(refine⟨rfl,.inl ⟨rfl,fun i o hi ho=>?_⟩⟩;cases hi;cases ho;first|rfl|exact aS Tg.dB.get rfl|exact Ah RB.dB.lt _|exact .inl ⟨rfl,w2⟩|exact .inl ⟨rfl,w1⟩)|(refine And.intro (fun eM=>(Bool.false_ne_true eM).elim) ?_<;>conv=>whnf)|(refine And.intro (fun _=>?_) ?_<;>conv=>whnf)|(refine And.intro ?_ ?_<;>conv=>whnf))),?_⟩;conv=>whnf
 refine bt (aE true ?_);conv=>whnf
 refine bw ?_;refine OY (now:=now) (R.nil jJ) (M.nil jJ) hL ?_ _ h3 (-1) _ rfl (by omega) (Fr.refl _ _) ⟨rfl,rfl,rfl,rfl,trivial⟩;intro h5 e5 CN;show VC fs ms _ _ _ _ _ _;refine aG 0 [] trivial (an (z:=true) ?_);conv=>whnf
 exact hQ h5 (jJ.trans CN)
end
structure Do where
 k:Int
 t:Int
 a:Int
 kk:Nat
 ops:List Op
def A2(x:Do):AV:=.agg [.int .i64 x.k,.int .i64 x.t,.int .i64 x.a,.fz x.kk (ops x.ops)]
def HM(l:List Do):List AV:=l.map A2
theorem NG(l:List Do):(HM l).length=l.length:=List.length_map ..
set_option smartUnfolding true in
theorem Qg(x:Do):(A2 x).cl=true:=by simp[A2,AV.cl,cC,nD]
theorem Qf(l:List Do):cC (HM l)=true:=pR (enc:=A2) Qg l
theorem Rq{l:List Do}{j k:Nat}(hj:j<l.length):pV (.ay 4) [.fz k (HM l),.int .i64 (j:Nat)]=some (.fp (A2 l[j]).cells 0):=uW (enc:=A2) hj rfl
def HO(n:Nat)(L:List En):Prop:=L.length≤n∧∀t,(bx L t).length≤4
theorem HO.sub{n:Nat}{L L':List En}(h:HO n L)(s:L'.Sublist L):HO (n+1) L':=
 ⟨by have:=s.length_le;have:=h.1;omega,fun t=>Nat.le_trans ((s.filter fun x=>x.1==t).map Prod.snd).length_le (h.2 t)⟩
theorem HO.same{n:Nat}{L L':List En}(h:HO n L)(s:L'=L):HO (n+1) L':=h.sub (by rw[s];exact List.Sublist.refl _)
theorem yQ(st:St)(t:Int)(f:Jb→Int×Jb):(sI st t f).2.L=st.L:=by
 unfold sI;split
 ·rfl
 ·split<;>rfl
theorem Sd(st:St)(t:Int)(l:List Op)(now:Int):(wL st t l now).2.L=st.L:=by
 unfold wL;split
 ·rfl
 ·split
  ·rfl
  ·split
   ·split
    ·rfl
    ·split<;>rfl
   ·rfl
theorem HO.lock{n:Nat}{st:St}{t x:Int}(h:HO n st.L):HO (n+1) (qM st t x).2.L:=by
 unfold qM;split
 ·exact h.same rfl
 ·split
  ·split
   ·exact h.same rfl
   ·split
    ·exact h.same rfl
    ·rename_i hz;have hz:fm st.T st.L t x=0:=by simpa using hz
     have h4:(bx st.L t).length<4:=by
      unfold fm at hz;split at hz
      ·rename_i ha;rw[hz] at ha;simp at ha
      split at hz
      ·cases hz
      split at hz
      ·cases hz
      split at hz
      ·cases hz
      ·rename_i hd;simp at hd;omega
     refine⟨by show(st.L++[(t,x)]).length≤n+1;rw[List.length_append];have:=h.1;simp;omega,fun u=>?_⟩;show(bx (st.L++[(t,x)]) u).length≤4;rw[so,List.length_append];by_cases e:t=u
     ·subst e;simp[bx] at h4⊢;omega
     ·have:=h.2 u;have e1:bx [(t,x)] u=[]:=by simp[bx,e]
      rw[e1];simpa using this
  ·exact h.same rfl
theorem HO.unl{n:Nat}{st:St}{t:Int}(h:HO n st.L):HO (n+1) (xN st t).2.L:=by
 unfold xN;split
 ·exact h.same rfl
 ·split
  ·split
   ·exact h.same rfl
   ·exact h.sub (List.eraseIdx_sublist ..)
  ·exact h.same rfl
theorem HO.fin{n:Nat}{st:St}{t:Int}(h:HO n st.L):HO (n+1) (xw st t).2.L:=by
 unfold xw;split
 ·exact h.same rfl
 ·exact h.sub List.filter_sublist
section
variable {h h':Heap} {col aB:Nat→Nat} {r m:Nat} {st:St} {Q:AV→Heap→Prop} {t now:Int}
theorem qN(M:RC h (sh col) m st)(f:Kc h h' col aB vo):RC h' (sh aB) m st:=M.keep f.shf (by
 rintro n h1 h2 ⟨k,hk,rfl⟩;rcases hk with⟨a,b⟩|rfl<;>omega)
theorem PE(R:RA h col r st)(f:Kc h h' col aB DK):RA h' aB r st:=R.keep f (fun n h1 h2 h=>by have:=h.1;omega) (fun i hi h=>by have:=h.1;omega)
set_option smartUnfolding true in
theorem Yn{x:Do}{N:Nat}(R:RA h col r st)(M:RC h (sh col) m st)(hO:HO N st.L)(hN:N≤900)(hk:x.kk=3→x.ops=[])(hl:x.ops.length<2^62)
  (hQ:∀h' aB st',RA h' aB r st'→RC h' (sh aB) m st'→HO (N+1) st'.L→Q (.bool true) h'):VD fs ms 18 [.ptr r 0,.ptr m 0,A2 x,.int .i64 t,.int .i64 now] h Q:=by
 have hL:st.L.length≤900:=Nat.le_trans hO.1 hN;have lf:Fr h (h.new (.cells (A2 x).cells true 0)) []:=(Fr.refl h []).new;have dy:Fr h (fh [h.next] (h.new (.cells (A2 x).cells true 0))) []:=zv (b:=h.next) lf (Nat.le_refl _);refine bX (af:=U3) rfl (yB rfl) ?_
 set_option smartUnfolding false in conv => whnf
 refine aE true ?_
 set_option smartUnfolding false in conv => whnf
 refine aG 4 [(0,.ptr r 0),(1,.ptr m 0),(3,.int .i64 t),(4,.int .i64 now),(7,.ptr h.next 0),(10,.bool false)] ⟨rfl,rfl,rfl,rfl,rfl,rfl,trivial⟩ ?_;refine pK [h.next] (i:=7) (v':=.fp (A2 x).cells 0) rfl (.ptr' (by simp) ai (.clean (show cC (A2 x).cells=true by simp[A2,AV.cells,cC,AV.cl,nD]))) ?_;refine aG 4 [(0,.ptr r 0),(1,.ptr m 0),(3,.int .i64 t),(4,.int .i64 now),(7,.fp (A2 x).cells 0),(10,.bool false)] ⟨rfl,rfl,rfl,rfl,rfl,rfl,trivial⟩ ?_;generalize fh [h.next] _=h1 at*;have R1:=R.nil dy;have M1:=M.nil dy;refine an (z:=true) ?_
 set_option smartUnfolding false in conv => whnf
 refine⟨.int .i64 x.k,rfl,?_⟩
 set_option smartUnfolding false in conv => whnf
 refine aQ (zj x.k 10 (by decide) (by decide)) ?_
 set_option smartUnfolding false in conv => whnf
 generalize r5 x.k 10=z;have fin:∀{h2 h3:Heap} {iR:Nat→Nat} {c3:Nat→Nat} {st':St},RA h2 iR r st'→Kc h2 h3 (sh iR) c3 RK→RC h3 c3 m st'→HO (N+1) st'.L→Q (.bool true) h3:=by
  intro h2 h3 iR c3 st' R2 f3 M3 hO';obtain⟨Ts,rfl,f4⟩:=f3.un;exact hQ h3 Ts st' (PE R2 f4) M3 hO'
 have eI:∀(a:Int),(a==a)=true:=by simp
 have eB:∀(a:Bool),(a==a)=true:=by simp
 refine br (fun hc=>?_) (fun hc=>?_)<;>(try rw[hc])<;>(set_option smartUnfolding false in conv=>whnf)
 ·refine⟨.fz x.kk (ops x.ops),rfl,?_⟩
  set_option smartUnfolding false in conv => whnf
  refine RZ R1 hk hl fun h2 iR R2 f2=>?_
  set_option smartUnfolding false in conv => whnf
  refine⟨.fz x.kk (ops x.ops),rfl,?_⟩
  set_option smartUnfolding false in conv => whnf
  refine Oc (qN M1 f2) hl fun h3 c3 M3 f3=>?_;have hq:=fin R2 f3 M3 (hO.same (Sd ..))
  set_option smartUnfolding false in conv => whnf
  refine⟨iM (by(set_option smartUnfolding false in conv=>whnf);repeat' (first|exact trivial|(exact⟨rfl,rfl,.inr ⟨_,_,rfl⟩⟩)|(refine⟨rfl,rfl,.inl ⟨rfl,fun o ho=>?_⟩⟩;cases ho;first|rfl)|(exact⟨rfl,.inr ⟨_,_,rfl⟩⟩)|(refine⟨rfl,.inl ⟨rfl,fun i o hi ho=>?_⟩⟩;cases hi;cases ho;first|rfl)|(refine And.intro (fun eM=>(Bool.false_ne_true eM).elim) ?_<;>set_option smartUnfolding false in conv=>whnf)|(refine And.intro (fun _=>?_) ?_<;>set_option smartUnfolding false in conv=>whnf)|(refine And.intro ?_ ?_<;>set_option smartUnfolding false in conv=>whnf))),?_⟩
  set_option smartUnfolding false in conv => whnf
  rw[eI];exact hq
 refine br (fun hc=>?_) (fun hc=>?_)<;>(try rw[hc])<;>(set_option smartUnfolding false in conv=>whnf)
 ·refine RU R1 fun h2 iR R2 f2=>?_
  set_option smartUnfolding false in conv => whnf
  refine N9 (qN M1 f2) fun h3 c3 M3 f3=>?_;have hq:=fin R2 f3 M3 (hO.same (yQ ..))
  set_option smartUnfolding false in conv => whnf
  rw[eI];exact hq
 refine br (fun hc=>?_) (fun hc=>?_)<;>(try rw[hc])<;>(set_option smartUnfolding false in conv=>whnf)
 ·refine Jt R1 fun h2 iR R2 f2=>?_
  set_option smartUnfolding false in conv => whnf
  refine EL (qN M1 f2) fun h3 c3 M3 f3=>?_;have hq:=fin R2 f3 M3 (hO.same (yQ ..))
  set_option smartUnfolding false in conv => whnf
  rw[eI];exact hq
 refine br (fun hc=>?_) (fun hc=>?_)<;>(try rw[hc])<;>(set_option smartUnfolding false in conv=>whnf)
 ·refine Jt R1 fun h2 iR R2 f2=>?_
  set_option smartUnfolding false in conv => whnf
  refine EL (qN M1 f2) fun h3 c3 M3 f3=>?_;have hq:=fin R2 f3 M3 (hO.same (yQ ..))
  set_option smartUnfolding false in conv => whnf
  rw[eI];exact hq
 refine br (fun hc=>?_) (fun hc=>?_)<;>(try rw[hc])<;>(set_option smartUnfolding false in conv=>whnf)
 ·refine⟨.int .i64 x.a,rfl,?_⟩
  set_option smartUnfolding false in conv => whnf
  refine N2 R1 hL fun h2 iR R2 f2=>?_
  set_option smartUnfolding false in conv => whnf
  refine⟨.int .i64 x.a,rfl,?_⟩
  set_option smartUnfolding false in conv => whnf
  refine JF (qN M1 f2) hL (hO.2 t) fun h3 c3 M3 f3=>?_;have hq:=fin R2 f3 M3 hO.lock
  set_option smartUnfolding false in conv => whnf
  refine⟨iM (by(set_option smartUnfolding false in conv=>whnf);repeat' (first|exact trivial|(exact⟨rfl,rfl,.inr ⟨_,_,rfl⟩⟩)|(refine⟨rfl,rfl,.inl ⟨rfl,fun o ho=>?_⟩⟩;cases ho;first|rfl)|(exact⟨rfl,.inr ⟨_,_,rfl⟩⟩)|(refine⟨rfl,.inl ⟨rfl,fun i o hi ho=>?_⟩⟩;cases hi;cases ho;first|rfl)|(refine And.intro (fun eM=>(Bool.false_ne_true eM).elim) ?_<;>set_option smartUnfolding false in conv=>whnf)|(refine And.intro (fun _=>?_) ?_<;>set_option smartUnfolding false in conv=>whnf)|(refine And.intro ?_ ?_<;>set_option smartUnfolding false in conv=>whnf))),?_⟩
  set_option smartUnfolding false in conv => whnf
  rw[eI];exact hq
 refine br (fun hc=>?_) (fun hc=>?_)<;>(try rw[hc])<;>(set_option smartUnfolding false in conv=>whnf)
 ·refine Sa R1 hL fun h2 iR R2 f2=>?_
  set_option smartUnfolding false in conv => whnf
  refine Od (qN M1 f2) hL fun h3 c3 M3 f3=>?_;have hq:=fin R2 f3 M3 hO.unl
  set_option smartUnfolding false in conv => whnf
  rw[eI];exact hq
 refine br (fun hc=>?_) (fun hc=>?_)<;>(try rw[hc])<;>(set_option smartUnfolding false in conv=>whnf)
 ·refine RT R1 fun h2 iR R2 f2=>?_
  set_option smartUnfolding false in conv => whnf
  refine N8 (qN M1 f2) fun h3 c3 M3 f3=>?_;have hq:=fin R2 f3 M3 (hO.same (yQ ..))
  set_option smartUnfolding false in conv => whnf
  rw[eI];exact hq
 refine br (fun hc=>?_) (fun hc=>?_)<;>(try rw[hc])<;>(set_option smartUnfolding false in conv=>whnf)
 ·refine N0 R1 fun h2 iR R2 f2=>?_
  set_option smartUnfolding false in conv => whnf
  refine JD (qN M1 f2) fun h3 c3 M3 f3=>?_;have hq:=fin R2 f3 M3 (hO.same (yQ ..))
  set_option smartUnfolding false in conv => whnf
  rw[eI];exact hq
 refine br (fun hc=>?_) (fun hc=>?_)<;>(try rw[hc])<;>(set_option smartUnfolding false in conv=>whnf)
 ·refine NZ R1 fun h2 iR R2 f2=>?_
  set_option smartUnfolding false in conv => whnf
  refine JA (qN M1 f2) fun h3 c3 M3 f3=>?_;have hq:=fin R2 f3 M3 (hO.same (yQ ..))
  set_option smartUnfolding false in conv => whnf
  rw[eI];exact hq
 refine⟨.int .i64 x.a,rfl,?_⟩
 set_option smartUnfolding false in conv => whnf
 refine⟨_,EN _ _ (by decide),?_⟩
 set_option smartUnfolding false in conv => whnf
 refine br (fun hc=>?_) (fun hc=>?_)<;>(try rw[hc])<;>(set_option smartUnfolding false in conv=>whnf)
 ·exact hQ _ _ st R1 M1 (hO.same rfl)
 ·refine RV R1 hL fun h2 iR R2 f2=>?_
  set_option smartUnfolding false in conv => whnf
  refine Oa (qN M1 f2) hL fun h3 c3 M3 f3=>?_;have hq:=fin R2 f3 M3 hO.fin
  set_option smartUnfolding false in conv => whnf
  rw[eB];exact hq
theorem N1{kl B:Nat}{l:List Do}{Q:AX→Env→Heap→Prop}(hl:l.length<2^62)(hk:∀x∈l,(x.kk=3→x.ops=[])∧x.ops.length<2^62)(hQ:∀e g,Q (.exit 0) e g):
  ∀(k i:Nat) (J:Int) (h:Heap) (col:Nat→Nat) (st:St) (now:Int) (env:Env),80-i=k→i≤80→J=((i:Nat):Int)→RA h col r st→RC h (sh col) m st→HO i st.L→0≤now→now≤9*i→
   dr env [(1,.fz kl (HM l)),(5,.ptr r 0),(7,.ptr m 0),(8,.int .i64 0),(9,.int .i64 now),(10,.int .i64 J)]→VC fs ms B false (.loop fB) env h Q:=by
 intro k;induction k using Nat.strongRecOn with
 |ind k ih=>
 intro i J h col st now env hki hi hJ R M hO hn0 hn9 dF;have Pt:decide (J<(((HM l).length:Nat):Int))=decide (i<l.length):=by rw[NG,hJ];simp
 refine aG 5 _ dF ?_;refine cS (aE true ?_);cases c:decide (i<l.length) with
 |false=>
  rw[c] at Pt;conv=>whnf
  refine nC (Pt) (fun hc=>?_)
  (try rw[hc])
  conv=>whnf
  exact hQ _ _
 |true=>
 rw[c] at Pt;have hlt:i<l.length:=of_decide_eq_true c;conv=>whnf
 refine qq (Pt) (fun hc=>?_)
 (try rw[hc])
 conv=>whnf
 refine br (fun hc=>?_) (fun hc=>?_)<;>(try rw[hc])<;>(conv=>whnf)
 rotate_left
 ·exact hQ _ _
 have hi8:i<80:=by have:=of_decide_eq_true hc;omega
 obtain⟨x,hx⟩:∃x,x=l[i]:=⟨_,rfl⟩;have sZ:pV (.ay 4) [.fz kl (HM l),.int .i64 J]=some (.fp (A2 x).cells 0):=by rw[hx,hJ];exact Rq hlt
 obtain⟨xC,hk2⟩:=hk x (by rw[hx];exact List.getElem_mem _);clear hx;have hL:st.L.length≤900:=by have:=hO.1;omega
 refine bt (bw (aE true ?_));conv=>whnf
 refine⟨_,sZ,?_⟩;conv=>whnf
 refine⟨.int .i64 x.t,rfl,?_⟩;conv=>whnf
 refine bt (VC.mono (Q:=fun y e g=>y=.normal∧∃t,RA g col r st∧RC g (sh col) m st∧dr e [(1,.fz kl (HM l)),(5,.ptr r 0),(7,.ptr m 0),(8,.int .i64 0),(9,.int .i64 now),(10,.int .i64 J),(11,.int .i64 t)]) ?_ ?_)
 ·refine an (z:=true) ?_;conv=>whnf
  refine br (fun hc=>?_) (fun hc=>?_)<;>(try rw[hc])<;>(conv=>whnf)
  ·refine EM M hL fun h' a b _ fr=>?_;conv=>whnf
   exact⟨rfl,a,R.nil fr,M.nil fr,rfl,rfl,rfl,rfl,rfl,rfl,rfl,trivial⟩
  ·exact⟨rfl,x.t,R,M,rfl,rfl,rfl,rfl,rfl,rfl,rfl,trivial⟩
 clear R M;rintro _ e g ⟨rfl,t,R,M,he⟩;show VC fs ms _ _ _ _ _ _;refine aG 5 _ he ?_;clear he;refine bt (VC.mono (Q:=fun y e g'=>y=.normal∧g'=g∧∃Ji,0≤Ji∧Ji≤now+9∧dr e [(1,.fz kl (HM l)),(5,.ptr r 0),(7,.ptr m 0),(8,.int .i64 0),(9,.int .i64 Ji),(10,.int .i64 J),(11,.int .i64 t)]) ?_ ?_)
 ·refine an (z:=true) ?_;conv=>whnf
  refine⟨_,sZ,?_⟩;conv=>whnf
  refine⟨.int .i64 x.k,rfl,?_⟩;conv=>whnf
  refine aQ (zj x.k 10 (by decide) (by decide)) ?_;conv=>whnf
  refine br (fun hc=>?_) (fun hc=>?_)<;>(try rw[hc])<;>(conv=>whnf)
  ·refine⟨_,sZ,?_⟩;conv=>whnf
   refine⟨.int .i64 x.a,rfl,?_⟩;conv=>whnf
   refine aQ (zj x.a 9 (by decide) (by decide)) ?_;have hb:=HA (i:=x.a) (n:=9) (by decide);have hw:some (AV.int .i64 (IntKind.i64.wrap (now+r5 x.a 9)))=some (AV.int .i64 (now+r5 x.a 9)):=by rw[IntWalk.i64_in _ (by omega)]
   conv=>whnf
   exact⟨rfl,rfl,now+r5 x.a 9,by omega,by omega,rfl,rfl,rfl,rfl,hw,rfl,rfl,trivial⟩
  ·exact⟨rfl,rfl,now,hn0,by omega,rfl,rfl,rfl,rfl,rfl,rfl,rfl,trivial⟩
 rintro _ e g' ⟨rfl,rfl,Ji,ha,hb,he⟩;show VC fs ms _ _ _ _ _ _;refine aG 5 _ he ?_;clear he;refine an (z:=true) ?_;conv=>whnf
 refine⟨_,sZ,?_⟩;conv=>whnf
 refine⟨A2 x,rfl,?_⟩;conv=>whnf
 refine Yn R M hO (by omega) xC hk2 fun h1 AZ WD R1 M1 Z6=>?_;conv=>whnf
 refine OX R1 M1 (by have:=Z6.1;omega) fun h2 ey=>?_;conv=>whnf
 have hw:some (AV.int .i64 (IntKind.i64.wrap (J+1)))=some (AV.int .i64 (J+1)):=by rw[IntWalk.i64_in _ (by omega)]
 refine an (z:=true) ?_;conv=>whnf
 refine ih (80-(i+1)) (by omega) (i+1) (J+1) h2 AZ WD Ji _ rfl (by omega) (by omega) (R1.nil ey) (M1.nil ey) Z6 ha (by omega) ?_;exact⟨rfl,rfl,rfl,rfl,rfl,hw,trivial⟩
end
set_option smartUnfolding true in
theorem B1(kt kl:Nat)(T:List Tk)(l:List Do)(ht:kt=3→T=[])(hT:T.length≤17592186044416)(hl:l.length<2^62)(hk:∀x∈l,(x.kk=3→x.ops=[])∧x.ops.length<2^62):
  PC fs ms 5 [.fz kt (eP T),.fz kl (HM l)] (.bool true):=by
 refine cq (by simp[cC,AV.cl,bD,Qf]) rfl ?_;refine bX (af:=C5) rfl (yB rfl) ?_;generalize hQ:(fun(v:AV) (_:Heap)=>v=.bool true)=Q;have hc0:=CF T
 set_option smartUnfolding false in conv => whnf
 refine aE true ?_
 set_option smartUnfolding false in conv => whnf
 refine aE true ?_
 set_option smartUnfolding false in conv => whnf
 cases hok:cg T with
 |false=>
  rw[hok] at hc0;have Bd:dA T (List.replicate T.length 0)=2:=hc0;refine Ab (col:=fun _=>0) kt T ht hT (fun _ h1 _=>?_) (fun h=>by rw[hok] at h;cases h);rw[Bd]
  set_option smartUnfolding false in conv => whnf
  refine aE true ?_
  set_option smartUnfolding false in conv => whnf
  refine EK (col:=fun _=>0) kt (by omega) (fun _=>?_) (fun h=>by rw[hok] at h;cases h)
  set_option smartUnfolding false in conv => whnf
  refine aE true ?_
  set_option smartUnfolding false in conv => whnf
  refine aE true ?_
  set_option smartUnfolding false in conv => whnf
  refine bt (aE true ?_)
  set_option smartUnfolding false in conv => whnf
  refine bw ?_;refine aG 5 [(1,.fz kl (HM l)),(8,.int .i64 2),(10,.int .i64 0)] ⟨rfl,rfl,rfl,trivial⟩ ?_;refine dH (z:=true) ?_
  set_option smartUnfolding false in conv => whnf
  refine br (fun hc=>?_) (fun hc=>?_)<;>(try rw[hc])<;>(set_option smartUnfolding false in conv=>whnf);all_goals
   show VC fs ms _ _ _ _ _ _;refine aG 0 [] trivial (an (z:=true) ?_)
   set_option smartUnfolding false in conv => whnf
   refine aQ y8 ?_
   set_option smartUnfolding false in conv => whnf
   subst hQ;rfl
 |true=>
  rw[hok] at hc0;have Bd:dA T (List.replicate T.length 0)=0:=hc0;refine Ab (col:=fun _=>0) kt T ht hT (fun hn=>(hn Bd).elim) (fun _ h1 AZ r R _=>?_)
  set_option smartUnfolding false in conv => whnf
  refine aE true ?_
  set_option smartUnfolding false in conv => whnf
  refine EK (col:=sh AZ) kt (by omega) (fun h=>by rw[hok] at h;cases h) (fun _ h2 c2 m M f=>?_);obtain⟨iR,rfl,f4⟩:=(f.wk (K':=RK) fun _ h=>h.elim).un;have R2:=PE R f4
  set_option smartUnfolding false in conv => whnf
  refine aE true ?_
  set_option smartUnfolding false in conv => whnf
  refine aE true ?_
  set_option smartUnfolding false in conv => whnf
  refine bt (aE true ?_)
  set_option smartUnfolding false in conv => whnf
  refine bw ?_;refine N1 (kl:=kl) hl hk ?_ 80 0 0 h2 iR _ 0 _ rfl (by omega) rfl R2 M ⟨Nat.zero_le _,fun _=>Nat.zero_le _⟩ (Int.le_refl _) (Int.le_refl _) ⟨rfl,rfl,rfl,rfl,rfl,rfl,trivial⟩;intro e g;show VC fs ms _ _ _ _ _ _;refine aG 0 [] trivial (an (z:=true) ?_)
  set_option smartUnfolding false in conv => whnf
  refine aQ y8 ?_
  set_option smartUnfolding false in conv => whnf
  subst hQ;rfl
end Ir
end Go.Proofs.YtnlcabhfkpafmaaGreat
