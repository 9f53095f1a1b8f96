/-
  Judge: in how many ticks a partition ran.
-/
import Derived.Test.YtepdklcpagielaaVJdB
set_option maxRecDepth 100000
set_option linter.unusedSimpArgs false
set_option linter.unusedVariables false
namespace Go.Proofs.Ytepdklcpagielaa
open Go Ads
namespace Ads
theorem uZ{h0 h:Heap}{bs:List Nat}(hb:∀b∈bs,h0.next≤b)(fr:Fr h0 h []):Fr h0 (ck bs h) []:=
 ⟨by rw[dP];exact fr.next,fun c hc hn=>by rw[jW,if_neg (fun hm=>by have:=hb c hm;omega)];exact fr.keep c hc hn⟩
end Ads
namespace Ir
theorem NR.R9{lo:Nat}{h:Heap}{v:AV}{M:List Nt}(hr:NR lo h v M):∃(k:Nat) (bs:List Nat),jo (· ∈bs) h v (.fz k (b8 M))∧∀b∈bs,lo≤b:=by
 rcases hr with⟨rfl,rfl⟩|⟨b,h1,h2,rfl,h4⟩
 ·exact⟨3,[],.aD,by simp⟩
 ·exact⟨0,[b],gW (by simp) h4 rfl (dK M) (bU M).symm (nG M),by simpa using h1⟩
theorem NR.len{lo:Nat}{h:Heap}{v:AV}{M:List Nt}(hr:NR lo h v M):pV .bO [v]=some (.int .i64 ((M.length:Nat):Int)):=by
 rcases hr with⟨rfl,rfl⟩|⟨b,h1,h2,rfl,h4⟩
 ·rfl
 ·rfl
def Cl(x1 x2:Int)(l:List Nt):Nat:=(l.filter (kS x1 x2)).length
theorem IA{x1 x2:Int}{l:List Nt}{j:Nat}(hj:j<l.length):Cl x1 x2 (l.take (j+1))=if kS x1 x2 l[j]=true then Cl x1 x2 (l.take j)+1 else Cl x1 x2 (l.take j):=by
 rw[eY hj];unfold Cl;rw[List.filter_append];by_cases h2:kS x1 x2 l[j]=true
 ·simp[h2]
 ·simp[h2]
theorem S9{k:Nat}{l:List Nt}{x1 x2:Int}{h0:Heap}(hl:l.length≤140737488355328){B:Nat}{Q:AX→Env→Heap→Prop}
  (hQ:∀e' h',Fr h0 h' []→Tr.get e' 8=some (.int .i64 ((Cl x1 x2 l:Nat):Int))→Q (.exit 0) e' h'):
  ∀(m j:Nat) (h:Heap) (env:Env),l.length-j=m→j≤l.length→Fr h0 h []→aP env [(2,.int .i64 x1),(3,.int .i64 x2),(8,.int .i64 ((Cl x1 x2 (l.take j):Nat):Int)),(13,.fz k (b8 l)),(14,.int .i64 ((l.length:Nat):Int)),(15,.int .i64 ((j:Nat):Int))]→
  VC fs ms B false (.loop lO) env h Q:=by
 intro m;induction m using Nat.strongRecOn with
 |ind m ih=>
 intro j h env hm hj fr cH;refine ak 5 _ cH ?_;refine bJ (aj true ?_);conv=>whnf
 refine aj true ?_;conv=>whnf
 refine br (fun hc=>?_) (fun hc=>?_)<;>(try rw[hc])<;>(conv=>whnf)
 ·have hlt:j<l.length:=by have:=of_decide_eq_true hc;omega
  have rG:=kF (k:=k) hlt;have hle:Cl x1 x2 (l.take j)≤j:=Nat.le_trans (List.length_filter_le ..) (by rw[List.length_take];omega);have hn:=IA (x1:=x1) (x2:=x2) hlt;generalize hx:l[j]=x at*;generalize Cl x1 x2 (l.take j)=c at*;have hno:kS x1 x2 x=false→∀e' h',Fr h0 h' []→aP e' [(2,.int .i64 x1),(3,.int .i64 x2),(8,.int .i64 ((c:Nat):Int)),(13,.fz k (b8 l)),(14,.int .i64 ((l.length:Nat):Int)),(15,.int .i64 (((j+1:Nat):Nat):Int))]→VC fs ms B false (.loop lO) e' h' Q:=fun hf e' h' fr' he=>by
   rw[hf,if_neg (by simp)] at hn;exact ih (l.length-(j+1)) (by omega) (j+1) h' e' rfl (by omega) fr' (by rw[hn];exact he)
  have hyes:kS x1 x2 x=true→∀e' h',Fr h0 h' []→aP e' [(2,.int .i64 x1),(3,.int .i64 x2),(8,.int .i64 ((c+1:Nat):Int)),(13,.fz k (b8 l)),(14,.int .i64 ((l.length:Nat):Int)),(15,.int .i64 (((j+1:Nat):Nat):Int))]→VC fs ms B false (.loop lO) e' h' Q:=fun hf e' h' fr' he=>by
   rw[hf,if_pos rfl] at hn;exact ih (l.length-(j+1)) (by omega) (j+1) h' e' rfl (by omega) fr' (by rw[hn];exact he)
  clear ih hn hQ;refine az (aL ?_);refine aj true ?_;conv=>whnf
  refine⟨_,rG,?_⟩;conv=>whnf
  refine⟨nt x,rfl,?_⟩;conv=>whnf
  refine aT (cD an rfl (Nat.le_refl _) rfl) fun h1 e1=>?_;conv=>whnf
  have JV:h1.get h.next=some (.cells (nt x).cells true 0):=by rw[e1,aG];rfl
  have cT:Fr h0 h1 []:=by rw[e1];exact fr.trans (((Fr.refl h []).new (x:=_)).lD (Nat.le_refl _))
  clear e1;refine aj true ?_;conv=>whnf
  refine⟨_,bA JV rfl,?_⟩;conv=>whnf
  refine br (fun hc=>?_) (fun hc=>?_)<;>(try rw[hc])<;>(conv=>whnf)
  ·have c1:x.k=1:=by simpa using hc
   refine⟨_,bA JV rfl,?_⟩;conv=>whnf
   refine br (fun hc=>?_) (fun hc=>?_)<;>(try rw[hc])<;>(conv=>whnf)
   ·have c3:x1≤x.a:=by simpa using hc
    refine⟨_,bA JV rfl,?_⟩;conv=>whnf
    refine aa (z:=true) ?_;conv=>whnf
    refine br (fun hc=>?_) (fun hc=>?_)<;>(try rw[hc])<;>(conv=>whnf)
    ·have c4:x.a<x2:=by simpa using hc
     refine aa (z:=true) ?_;conv=>whnf
     refine hyes (by simp[kS,c1,c3,c4]) _ _ cT ⟨rfl,rfl,ay (by omega),rfl,rfl,ay (by omega),trivial⟩
    ·have c4:¬x.a<x2:=by simpa using hc
     refine aa (z:=true) ?_;conv=>whnf
     refine hno (by simp[kS,c4]) _ _ cT ⟨rfl,rfl,rfl,rfl,rfl,ay (by omega),trivial⟩
   ·have c3:¬x1≤x.a:=by have:=of_decide_eq_false hc;omega
    refine aa (z:=true) ?_;conv=>whnf
    refine aa (z:=true) ?_;conv=>whnf
    refine hno (by simp[kS,c3]) _ _ cT ⟨rfl,rfl,rfl,rfl,rfl,ay (by omega),trivial⟩
  ·have c1:¬x.k=1:=by simpa using hc
   refine aa (z:=true) ?_;conv=>whnf
   refine aa (z:=true) ?_;conv=>whnf
   refine hno (by simp[kS,c1]) _ _ cT ⟨rfl,rfl,rfl,rfl,rfl,ay (by omega),trivial⟩
 ·have hge:j=l.length:=by have:=of_decide_eq_false hc;omega
  subst hge;rw[List.take_length];exact hQ _ _ fr rfl
theorem S8(k:Nat)(l:List Nt)(p x1 x2:Int)(hl:l.length*64≤140737488355328){h:Heap}{Q:AV→Heap→Prop}(hQ:∀h',Fr h h' []→Q (.int .i64 ((wN p x1 x2 l:Nat):Int)) h'):VD fs ms 25 [.fz k (b8 l),.int .i64 p,.int .i64 x1,.int .i64 x2] h Q:=by
 have hfl:=yJ p l;refine bw (af:=XE) rfl (Nat.le_of_ble_eq_true rfl) ?_;conv=>whnf
 refine aj true ?_;conv=>whnf
 refine az ?_;refine aj true ?_;conv=>whnf
 refine LZ k l p hl fun v h1 hr fr=>?_;conv=>whnf
 rw[hr.len];conv=>whnf
 obtain⟨k',bs,hfz,JX⟩:=hr.R9;refine dV bs (i:=13) (v':=.fz k' (b8 (Ah p l))) rfl hfz ?_;have fq:=uZ JX fr;refine aL ?_;refine S9 (k:=k') (l:=Ah p l) (x1:=x1) (x2:=x2) (h0:=h) (by omega) ?_ (Ah p l).length 0 _ _ rfl (Nat.zero_le _) fq ⟨rfl,rfl,rfl,rfl,rfl,rfl,trivial⟩;intro e' h' iB g8;show VC fs ms _ _ _ _ _ _;refine ak 4 [(8,.int .i64 ((Cl x1 x2 (Ah p l):Nat):Int))] ⟨g8,trivial⟩ (aa (z:=true) ?_);conv=>whnf
 exact hQ h' iB
end Ir
end Go.Proofs.Ytepdklcpagielaa
