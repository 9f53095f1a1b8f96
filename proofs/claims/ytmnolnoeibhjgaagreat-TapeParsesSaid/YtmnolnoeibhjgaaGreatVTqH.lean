/-
  Tape: the statement TapeParses.
-/
import Derived.Test.YtmnolnoeibhjgaaGreatVTqG
set_option maxRecDepth 100000
set_option linter.unusedSimpArgs false
set_option linter.unusedVariables false
namespace Go.Proofs.YtmnolnoeibhjgaaGreat
open Go Ads
namespace Ir
theorem Fo{k n:Nat}{b:List Int}(hn:n≤b.length):pV (.slice 1 false true false) [.fz k (eD b),.int .i64 ((n:Nat):Int)]=some (.fz (cW k false n b.length b.length) (eD (b.take n))):=by
 have hb:bounds (eD b).length (eD b).length false true false [.int .i64 ((n:Nat):Int)]=some (0,n,(eD b).length):=by
  have h0:asNat (.int .i64 ((n:Nat):Int))=some n:=by simp[asNat]
  simp only[bounds,h0,Option.map_some];rw[Nat.ble_eq_true_of_le (Nat.zero_le _),Nat.ble_eq_true_of_le (show n≤(eD b).length by rw[cq];exact hn),Nat.ble_eq_true_of_le (Nat.le_refl _)];rfl
 show nV 1 false true false k (eD b) [.int .i64 ((n:Nat):Int)]=_;rw[nV,hb];have:(Nat.beq 0 b.length&&Nat.beq k 0&&!Nat.beq 0 0)=false:=by simp
 simp only[cq,this,cond_false,lG,cond_true,List.drop_zero,Nat.sub_zero];rw[eD,eD,List.map_take]
theorem J6(n:Nat):(bif decide ((3000:Int)<(n:Int)) then(3000:Int) else(n:Int))=((min n 3000:Nat):Int):=by
 by_cases h:(3000:Int)<n
 ·rw[decide_eq_true h];simp only[cond_true];omega
 ·rw[decide_eq_false h];simp only[cond_false];omega
theorem EL{X:List Int}(h:okB X):mH (mu X):=by
 refine⟨rfl,?_⟩;show(wm X).length≤100000;unfold wm;split
 ·unfold vp;rw[zy];have hr:okB (kg 5 (X,0)).2.1:=l9 (l9 (l9 (l9 (l9 h))));have:=zw (m:=32) hr (by omega);unfold dP;omega
 ·simp
theorem yy:∀(m:Nat) (X:List Int) (A:List (bu×Int)),okB X→(∀x∈A,mH x)→(∀x∈(mY m X A).1,mH x)∧(mY m X A).1.length≤A.length+m
 |0,X,A,_,hA=>⟨hA,Nat.le_refl _⟩
 |m+1,X,A,hX,hA=>by
  unfold mY;split
  ·exact⟨hA,by simp⟩
  ·split
   ·exact⟨hA,by simp⟩
   ·split
    ·exact⟨hA,by simp⟩
    ·have hS:okB (aQ 4096 (X,0)).2.1:=l9 (S:=(X,0)) hX;have ih:=yy m _ (A++[mu ((aQ 4096 (X,0)).2.1.take (aQ 4096 (X,0)).1.toNat)]) (hS.drop (aQ 4096 (X,0)).1.toNat) (by
      intro x hx;rcases List.mem_append.1 hx with h|h
      ·exact hA x h
      ·rw[List.mem_singleton] at h;rw[h];exact EL (hS.take _))
     refine⟨ih.1,Nat.le_trans ih.2 ?_⟩;simp;omega
theorem HX{I:Nat}{L X:List Int}{v:AV}{h:Heap}(hs:oH h I L v X)(hl:X.length≤100000){Q:AV→Heap→Prop}(hQ:∀h',Fr h h' []→Q (.dO [.fz (cR (par X).1.length) (fK (par X).1),.int .i64 (par X).2]) h'):VD fs ms 14 [v] h Q:=by
 refine me (D0 hs hl fun w h' gr fr=>?_);obtain⟨bs,hf,hb⟩:=gr.BX (m7 _) (uE _);rw[eo] at hf;exact⟨bs,_,.PA (.cons hf (.cons (.clean rfl) .nil)),hQ _ (gY hb fr)⟩
theorem z3(hw:PC fs ms 12 [] (.bool true))(k:Nat)(b:List Int)(hb:okB b):PC fs ms 4 [.fz k (eD b)] (.bool true):=by
 refine mb (by simp[e9,AV.cl,Ga]) rfl ?_;refine bY (af:=C4) rfl (Nat.le_of_ble_eq_true rfl) ?_;generalize hQ:(fun(v:AV) (_:Heap)=>v=.bool true)=Q;have Uk:pV (.slice 1 false true false) [.fz k (eD b),.int .i64 (bif decide ((3000:Int)<(((eD b).length:Nat):Int)) then(3000:Int) else(((eD b).length:Nat):Int))]=some (.fz (cW k false (min b.length 3000) b.length b.length) (eD (b.take (min b.length 3000)))):=by
  rw[J6,cq,Fo (Nat.min_le_left _ _)]
 have hXl:(b.take (min b.length 3000)).length≤3000:=by rw[List.length_take];omega
 have Xp:=hb.take (min b.length 3000);generalize cW k false (min b.length 3000) b.length b.length=k1 at Uk;generalize b.take (min b.length 3000)=X at*;obtain⟨Rl,Zq⟩:=yy X.length X [] Xp (by simp);change ∀x∈(par X).1,mH x at Rl
 change (par X).1.length≤_ at Zq
 conv=>whnf
 refine an true ?_;conv=>whnf
 refine an true ?_;conv=>whnf
 refine⟨_,Uk,?_⟩;conv=>whnf
 refine KQ X (by omega) fun v1 h1 Y1 pZ=>?_;conv=>whnf
 obtain⟨I,hI,sv,hg⟩:=Y1.sv;have uH:oH h1 I X v1 X:=⟨sv,hg,Xp,by omega⟩;refine an true ?_;conv=>whnf
 refine Gg uH (by omega) fun v2 h2 TK iu=>?_;conv=>whnf
 obtain⟨J,hJ,sv2,zj⟩:=TK.sv;refine an true ?_;conv=>whnf
 refine HX (uH.keep iu (.inr (by simp))) (by omega) fun h3 qY=>?_;conv=>whnf
 have I3:oH h3 J X v2 X:=(oH.mk sv2 zj Xp (by omega):oH h2 J X v2 X).keep qY (.inr (by simp));refine an true ?_;conv=>whnf
 refine Ii I3 (by omega) fun h4 uz=>?_;have br4:BR h1.next.pred.succ h4 v1 X∨True:=.inr trivial;clear br4;conv=>whnf
 generalize hA:(par X).1=A at*;generalize hE:(par X).2=E at*;refine aJ (an true ?_);conv=>whnf
 refine aR ?_;refine VC.mono (Q:=fun x e h=>x=.exit 0∧bQ e [(5,.fz (cR A.length) (fK A)),(6,.int .i64 E),(7,.fz (cR A.length) (fK A)),(8,.int .i64 E)]) ?_ ?_
 ·rcases Y1 with⟨hz,rfl⟩|⟨hne,c,q1,q2,rfl,q4⟩
  ·refine ay 5 [(3,.az),(5,.fz (cR A.length) (fK A)),(6,.int .i64 E),(7,.fz (cR A.length) (fK A)),(8,.int .i64 E),(9,.int .i64 0)] ⟨rfl,rfl,rfl,rfl,rfl,rfl,trivial⟩ ?_;refine aH (aa (z:=true) ?_);conv=>whnf
   exact⟨rfl,rfl,rfl,rfl,rfl,trivial⟩
  ·have n2:=iu.next;have n3:=qY.next;have n4:=uz.next;have g4:h4.get c=some (.cells (eD X) true 1):=by
    rw[fJ] at q4;exact(uz.keep c (by omega) (by simp)).trans ((qY.keep c (by omega) (by simp)).trans ((iu.keep c (by omega) (by simp)).trans q4))
   refine SZ (h0:=h4) (I:=c) (n:=X.length) (by omega) ?_ X.length 0 h4 _ X rfl (Nat.zero_le _) (by omega) rfl g4 (Fr.refl _ _) ⟨by rw[cq];rfl,rfl,rfl,rfl,rfl,rfl,trivial⟩;intro e' h' _ ha;exact⟨rfl,ha⟩
 rintro x e5 h5 ⟨rfl,ha5⟩;show VC fs ms _ false _ _ _ _;have Zp:∀x∈A,x.1.ops.length<2^62:=fun x hx=>by have:=(Rl x hx).l;omega
 have JJ:A.length≤100000:=by simp at Zq;omega
 refine ay 5 _ ha5 ?_;refine aJ (an true ?_);conv=>whnf
 refine cC (Eb _ _ A JJ Zp) ?_;conv=>whnf
 rw[de];conv=>whnf
 refine aa (z:=true) ?_;conv=>whnf
 refine an true ?_;conv=>whnf
 refine JH JJ Rl fun v6 h6 W hN hW P9=>?_;conv=>whnf
 refine Ks JJ Rl fun h7 TP=>?_;conv=>whnf
 have Xn:=hN.keep TP (by simp);have hlen:=GR.len Xn.row;have K5:W.length=(fe A).length:=by rw[←hW,List.length_map]
 have Li:=p5 A;refine aJ (an true ?_);conv=>whnf
 rw[hlen];conv=>whnf
 refine cj ?_;conv=>whnf
 refine k7 (by rw[lD,cD,K5];exact de _) (fun hc=>?_)
 (try rw[hc])
 conv=>whnf
 refine aa (z:=true) ?_;conv=>whnf
 refine aJ (an true ?_);conv=>whnf
 refine aR ?_;refine VC.mono (Q:=fun x e h=>x=.exit 2∧bQ e [(5,.fz (cR A.length) (fK A)),(7,.fz (cR A.length) (fK A))]) ?_ ?_
 ·have hG:∀x∈W.map (·.1),mH (x,0):=by
   rw[hW];intro x hx;obtain⟨y,hy,rfl⟩:=List.mem_map.1 hx;have:=Rl y (List.mem_filter.1 hy).1;exact⟨this.k,this.l⟩
  rcases Xn.row with⟨hz,rfl⟩|⟨hne,c,q1,q2,q3,q4⟩
  ·refine ay 5 [(5,.fz (cR A.length) (fK A)),(7,.fz (cR A.length) (fK A)),(10,.az),(12,.int .i64 0)] ⟨rfl,rfl,rfl,rfl,trivial⟩ ?_;refine aH (aa (z:=true) ?_);conv=>whnf
   exact⟨rfl,rfl,rfl,trivial⟩
  ·rw[lD] at q3;subst q3;refine O7 (W:=W) (lo:=h5.next) (c:=c) (K:=cR (fe A).length) (by omega) hG (h0:=h7) (by have:=P9.next;have:=TP.next;omega) ?_ W.length 0 h7 _ rfl (Nat.zero_le _) Xn q4 ⟨rfl,rfl,rfl,by rw[hW];rfl,rfl,trivial⟩;intro e' h' ha;exact⟨rfl,ha⟩
 rintro x e8 h8 ⟨rfl,ha8⟩;show VC fs ms _ false _ _ _ _;refine ay 5 _ ha8 (aa (z:=true) ?_);conv=>whnf
 refine cC (Eb _ _ A JJ Zp) ?_;conv=>whnf
 refine cC hw ?_;conv=>whnf
 subst hQ;rfl
end Ir
end Go.Proofs.YtmnolnoeibhjgaaGreat
