/-
  Tape: the statement TapeBytes.
-/
import Derived.Test.YtmnolnoeibhjgaaGreatZC
set_option maxRecDepth 100000
set_option linter.unusedSimpArgs false
set_option linter.unusedVariables false
namespace Go.Proofs.YtmnolnoeibhjgaaGreat
open Go Ads
namespace Ads
theorem Iz{k n s:Nat}{l:List AV}(hs:aL s l=true)(hn:n≤l.length):pV (.slice s false true false) [.fz k l,.int .i64 ((n:Nat):Int)]=some (.fz (cW k false n l.length l.length) (l.take n)):=by
 have hb:bounds l.length l.length false true false [.int .i64 ((n:Nat):Int)]=some (0,n,l.length):=by
  have h0:asNat (.int .i64 ((n:Nat):Int))=some n:=by simp[asNat]
  simp only[bounds,h0,Option.map_some];rw[Nat.ble_eq_true_of_le (Nat.zero_le _),Nat.ble_eq_true_of_le hn,Nat.ble_eq_true_of_le (Nat.le_refl _)];rfl
 show nV s false true false k l [.int .i64 ((n:Nat):Int)]=_;rw[nV,hb];have:(Nat.beq 0 l.length&&Nat.beq k 0&&!Nat.beq 0 0)=false:=by simp
 simp only[this,cond_false,hs,cond_true,List.drop_zero,Nat.sub_zero]
theorem zo(n m:Nat):(bif decide ((m:Int)<(n:Int)) then(m:Int) else(n:Int))=((min n m:Nat):Int):=by
 by_cases h:(m:Int)<n
 ·rw[decide_eq_true h];simp only[cond_true];omega
 ·rw[decide_eq_false h];simp only[cond_false];omega
end Ads
namespace Ir
def jt(x:bu):bu:={x with kk:=cW x.kk false (min x.ops.length 40) x.ops.length x.ops.length,ops:=x.ops.take (min x.ops.length 40)}
def mU(l:List bu):List bu:=(l.take 40).map jt
theorem vL(l:List bu):(mU l).length=min 40 l.length:=by simp[mU]
theorem Bc{l:List bu}:∀x∈mU l,x.ops.length<2^62:=by
 intro x hx;obtain⟨y,_,rfl⟩:=List.mem_map.1 hx;show(y.ops.take (min y.ops.length 40)).length<_;rw[List.length_take];omega
theorem Gz(x:bu):bz (dG x).cells=true:=rfl
theorem EY{l:List bu}{j:Nat}(hj:j<l.length)(Rk:j<40):dA ((mU l).take (j+1))=dA ((mU l).take j)++[dG (jt l[j])]:=by
 have hlt:j<(mU l).length:=by rw[vL];omega
 rw[dz hlt];have:(mU l)[j]=jt l[j]:=by simp[mU]
 rw[this,dA,List.map_append];rfl
theorem GR.own{s lo:Nat}{h:Heap}{v:AV}{M:List AV}(hr:GR s lo h v M){d:Nat}(ho:gx v d):lo≤d∧d<h.next:=by
 obtain⟨o,n,c,p,rfl⟩:=ho;rcases hr with⟨_,h⟩|⟨_,b,h1,h2,h3,_⟩
 ·simp at h
 ·simp only[AV.sl.injEq] at h3;obtain⟨rfl,_⟩:=h3;exact⟨h1,h2⟩
theorem GR.Jf{s bytes lo:Nat}{h:Heap}{v:AV}{M:List AV}(hr:GR s lo h v M){x:AV}(hx:x.cells.length=s)(hf:bz x.cells=true)(hs:aL s M=true)(hl:(M.length+1)*bytes≤140737488355328)(hm:M.length+1≤140737488355328):
  ∃v' g',eV (.append s bytes) [v,.sl h.next 0 1 1 false] (h.new (.cells x.cells true 0))=some (v',g')∧GR s h.next g' v' (M++[x])∧h.next≤g'.next∧∀d,d<h.next→¬gx v d→g'.get d=h.get d:=by
 have hsrc:eY s (h.new (.cells x.cells true 0)) (.sl h.next 0 1 1 false)=some (1,x.cells):=wI au (by omega);have AU:ak (M++[x])=ak M++x.cells:=by rw[lg];simp[ak]
 rcases hr with⟨h1,h2⟩|⟨kD,b,h1,h2,h3,h4⟩
 ·subst h1 h2;have:=kJ (bytes:=bytes) hsrc hf (by simpa using hl) (by omega);rw[if_neg (by omega)] at this;refine⟨_,_,this,.inr ⟨by simp,h.next+1,by omega,Nat.lt_succ_self _,rfl,?_⟩,by show h.next≤h.next+1+1;omega,fun c hc _=>?_⟩
  ·rw[AU];exact au (h:=h.new (.cells x.cells true 0))
  ·exact(aF (h:=h.new (.cells x.cells true 0)) (show c<h.next+1 by omega)).trans (aF (by omega))
 ·subst h3;have hg:(h.new (.cells x.cells true 0)).get b=some (.cells (ak M) true s):=by rw[aF h2];exact h4
  refine⟨_,_,rT hg (gX hs) hsrc hf hl hm,.inr ⟨by simp,h.next+1,by omega,Nat.lt_succ_self _,by rw[List.length_append];rfl,?_⟩,by show h.next≤h.next+1+1;omega,fun c hc ho=>?_⟩
  ·have:=au (h:=(h.new (.cells x.cells true 0)).del b) (x:=.cells (ak M++x.cells) true s);rw[show((h.new (.cells x.cells true 0)).del b).next=h.next+1 from rfl] at this;rw[this,AU]
  ·have hne:c≠b:=by rintro rfl;exact ho ⟨_,_,_,_,rfl⟩
   exact(aF (h:=(h.new (.cells x.cells true 0)).del b) (show c<h.next+1 by omega)).trans ((jT hne).trans (aF (by omega)))
theorem O2{h0:Heap}{k:Nat}{l:List bu}(hl:l.length<2^62)(nH:∀x∈l,x.ops.length<2^62){B:Nat}{Q:AX→Env→Heap→Prop}(hQ:∀e' h' v,GR 6 h0.next h' v (dA (mU l))→Fr h0 h' []→Tr.get e' 3=some v→Q (.exit 0) e' h'):
  ∀(m j:Nat) (h:Heap) (env:Env) (v:AV),(mU l).length-j=m→j≤(mU l).length→GR 6 h0.next h v (dA ((mU l).take j))→Fr h0 h []→
   bQ env [(3,v),(0,.fz k (dA l)),(4,.int .i64 ((j:Nat):Int))]→
   VC fs ms B false (.loop eZ) env h Q:=by
 have RL:=vL l;intro m;induction m with
 |zero=>
  intro j h env v hm hj hr fr bg;have hjl:j=(mU l).length:=by omega
  generalize hJ:((j:Nat):Int)=J at bg;refine ay 5 _ bg ?_;refine aH (aa (z:=true) ?_);conv=>whnf
  refine br (fun hc=>?_) (fun hc=>?_)<;>(try rw[hc])<;>(conv=>whnf)
  ·have JO:j<l.length:=by have:=of_decide_eq_true hc;rw[cD] at this;omega
   refine k7 (by simp;omega) (fun hc=>?_)
   (try rw[hc])
   conv=>whnf
   exact hQ _ h v (by rw[hjl,List.take_length] at hr;exact hr) fr rfl
  ·exact hQ _ h v (by rw[hjl,List.take_length] at hr;exact hr) fr rfl
 |succ m ih=>
  intro j h env v hm hj hr fr bg;have hlt:j<l.length:=by omega
  have Rk:j<40:=by omega
  have lV:=nI (k:=k) hlt;have Qn:=nH _ (List.getElem_mem hlt);have hU:=EY hlt Rk;generalize hX:l[j]=x at*;have ju:(jt x).ops.length<2^62:=by
   show(x.ops.take (min x.ops.length 40)).length<_;rw[List.length_take];omega
  generalize hJ:((j:Nat):Int)=J at bg lV;refine ay 5 _ bg ?_;refine aH (an true ?_);conv=>whnf
  refine ny (by simp[cD];omega) (fun hc=>?_)
  (try rw[hc])
  conv=>whnf
  refine ny (by simp;omega) (fun hc=>?_)
  (try rw[hc])
  conv=>whnf
  refine aJ (aR (an true ?_));conv=>whnf
  refine⟨_,lV,?_⟩;conv=>whnf
  refine⟨dG x,rfl,?_⟩;conv=>whnf
  refine cm (bX au rfl (Nat.le_refl _) rfl) fun h1 e1=>?_;have h1c:h1.get h.next=some (.cells (dG x).cells true 0):=by rw[e1,aA];rfl
  have GK:GR 6 h0.next h1 v (dA ((mU l).take j)):=by
   rw[e1];exact hr.keep (T:=[]) (((Fr.refl h []).new).gM (Nat.le_refl _)) (by simp)
  have Ab:Fr h0 h1 []:=by rw[e1];exact fr.new.gM fr.next
  have Qg:h1.next=h.next+1:=by rw[e1];rfl
  clear e1;conv=>whnf
  refine an true ?_;conv=>whnf
  refine⟨.fz x.kk (b9 x.ops),cM h1c rfl,?_⟩;conv=>whnf
  refine⟨.fz x.kk (b9 x.ops),cM h1c rfl,?_⟩;conv=>whnf
  have Uk:pV (.slice 3 false true false) [.fz x.kk (b9 x.ops),.int .i64 (bif decide ((40:Int)<(((b9 x.ops).length:Nat):Int)) then(40:Int) else(((b9 x.ops).length:Nat):Int))]=some (.fz (jt x).kk (b9 (jt x).ops)):=by
   have h2:(bif decide ((40:Int)<(((b9 x.ops).length:Nat):Int)) then(40:Int) else(((b9 x.ops).length:Nat):Int))=((min (b9 x.ops).length 40:Nat):Int):=zo (b9 x.ops).length 40;rw[h2,Iz (dK x.ops) (Nat.min_le_left _ _),bq];simp[jt,b9,List.map_take]
  refine⟨_,Uk,?_⟩;conv=>whnf
  refine cm (bX h1c rfl (Nat.le_refl _) rfl) fun h2 e2=>?_;have Zk:h2.get h.next=some (.cells (dG (jt x)).cells true 0):=by rw[e2,aA];rfl
  have K4:GR 6 h0.next h2 v (dA ((mU l).take j)):=by
   rw[e2];have fn:=fr.next;rcases GK with hw|⟨kD,b,g1,g2,g3,g4⟩
   ·exact .inl hw
   ·rcases hr with⟨hw,_⟩|⟨_,b',k1,k2,k3,k4⟩
    ·exact absurd hw kD
    ·rw[g3] at k3;simp only[AV.sl.injEq] at k3;obtain⟨rfl,_⟩:=k3;exact .inr ⟨kD,b,g1,g2,g3,(bw (by omega)).trans g4⟩
  have N4:Fr h0 h2 []:=by rw[e2];exact Ab.gM fr.next
  have Zl:h2.next=h.next+1:=by rw[e2];exact Qg
  clear e2;conv=>whnf
  refine an true ?_;conv=>whnf
  refine⟨dG (jt x),FG Zk (Nat.le_refl _),?_⟩;conv=>whnf
  have Yj:((mU l).take j).length≤40:=by rw[List.length_take];omega
  obtain⟨v',g',ha,x8,Qk,lS⟩:=GR.Jf (bytes:=64) K4 (x:=dG (jt x)) rfl (Gz _) (iX _) (by rw[cD];omega) (by rw[cD];omega);rw[←hU] at x8;refine⟨_,_,ha,?_⟩;have fn:=fr.next;have Xm:g'.get h.next=some (.cells (dG (jt x)).cells true 0):=(lS _ (by omega) (fun hw=>by have:=(GR.own hr hw).2;omega)).trans Zk;have N6:Fr h0 g' []:=N4.app Qk (fun c hc=>lS c (by omega) (fun hw=>by have:=(GR.own K4 hw).1;omega));conv=>whnf
  refine tP [h.next] (i:=5) (v:=.ptr h.next 0) (v':=.fp (dG (jt x)).cells 0) rfl (.ptr' (by simp) Xm (.clean (gB (mq (jt x))))) ?_;have h4r:GR 6 h0.next (cg [h.next] g') v' (dA ((mU l).take (j+1))):=by
   rcases x8 with hw|⟨kD,b,g1,g2,g3,g4⟩
   ·exact .inl hw
   ·exact .inr ⟨kD,b,by omega,by rw[bF];exact g2,g3,by rw[dm,if_neg (by simp;omega)];exact g4⟩
  have h4f:Fr h0 (cg [h.next] g') []:=gY (by simp;omega) N6;generalize cg [h.next] g'=H at*;refine ay 5 [(3,v'),(0,.fz k (dA l)),(4,.int .i64 J),(5,.fp (dG (jt x)).cells 0)] ⟨rfl,rfl,rfl,by rw[Tr.aT,if_pos rfl],trivial⟩ ?_;have Rj:rV (.bt 6) [.fp (dG (jt x)).cells 0] H=some (dG (jt x)):=rfl;refine aa (z:=true) ?_;conv=>whnf
  refine⟨dG (jt x),Rj,?_⟩;conv=>whnf
  refine cC (F8 _ ju) ?_;conv=>whnf
  refine⟨dG (jt x),Rj,?_⟩;conv=>whnf
  refine cC (Bx _ ju) ?_;conv=>whnf
  refine⟨wO (by(conv=>whnf);repeat' (first|exact trivial|exact Rj|(exact⟨rfl,rfl,.inr ⟨_,_,rfl⟩⟩)|(refine⟨rfl,rfl,.inl ⟨rfl,fun o ho=>?_⟩⟩;cases ho;first|rfl|exact Rj)|(exact⟨rfl,.inr ⟨_,_,rfl⟩⟩)|(refine⟨rfl,.inl ⟨rfl,fun i o hi ho=>?_⟩⟩;cases hi;cases ho;first|rfl|exact Rj)|(refine And.intro (fun gb=>(Bool.false_ne_true gb).elim) ?_<;>conv=>whnf)|(refine And.intro (fun _=>?_) ?_<;>conv=>whnf)|(refine And.intro ?_ ?_<;>conv=>whnf))),?_⟩;conv=>whnf
  refine k7 (by simp) (fun hc=>?_)
  (try rw[hc])
  conv=>whnf
  refine ay 5 [(3,v'),(0,.fz k (dA l)),(4,.int .i64 J)] ⟨rfl,rfl,rfl,trivial⟩ ?_;refine aa (z:=true) ?_;conv=>whnf
  refine ih (j+1) H _ v' (by omega) (by omega) h4r h4f ⟨rfl,rfl,?_,trivial⟩;subst hJ;exact bC (by omega)
theorem BH(hw:PC fs ms 12 [] (.bool true))(k:Nat)(l:List bu)(hl:l.length<2^62)(nH:∀x∈l,x.ops.length<2^62):PC fs ms 3 [.fz k (dA l)] (.bool true):=by
 refine mb (by simp[e9,AV.cl,pT]) rfl ?_;refine bY (af:=C3) rfl (Nat.le_of_ble_eq_true rfl) ?_;generalize hQ:(fun(v:AV) (_:Heap)=>v=.bool true)=Q;conv=>whnf
 refine an true ?_;conv=>whnf
 refine an true ?_;conv=>whnf
 refine aJ (an true ?_);conv=>whnf
 refine aR ?_;have RL:=vL l;refine O2 (h0:=⟨0,.nil⟩) (k:=k) hl nH ?_ (mU l).length 0 _ _ .az rfl (Nat.zero_le _) (.inl ⟨rfl,rfl⟩) (Fr.refl _ _) ⟨rfl,rfl,rfl,trivial⟩;intro e' h' v hr fr h3;show VC fs ms _ false _ _ _ _;obtain⟨bs,hf,Ac⟩:=hr.BX (iX _) (pT _);refine tP bs h3 hf ?_;refine ay 3 [(3,.fz (cR (dA (mU l)).length) (dA (mU l)))] ⟨by rw[Tr.aT,if_pos rfl],trivial⟩ ?_;generalize cg bs h'=H;refine aa (z:=true) ?_;conv=>whnf
 refine Dt _ _ (by omega) Bc fun va h1 rK pZ=>?_;conv=>whnf
 refine H9 _ _ (by omega) Bc fun vb h2 kN iu=>?_;conv=>whnf
 refine EM (rK.keep iu (by simp)) kN ?_;conv=>whnf
 refine ny (by simp) (fun hc=>?_)
 (try rw[hc])
 conv=>whnf
 refine cC hw ?_;conv=>whnf
 subst hQ;rfl
end Ir
end Go.Proofs.YtmnolnoeibhjgaaGreat
