/-
  Tape: the loops of the statement TapeParses.
-/
import Derived.Test.YtmnolnoeibhjgaaGreatVTqE
import Derived.Test.YtmnolnoeibhjgaaGreatVTqF
set_option maxRecDepth 100000
set_option linter.unusedSimpArgs false
set_option linter.unusedVariables false
namespace Go.Proofs.YtmnolnoeibhjgaaGreat
open Go Ads
namespace Ir
theorem uJ{b o n cap j s:Nat}{op:Bool}(h:j<n):pV (.aB s) [.sl b o n cap op,.int .i64 (j:Nat)]=some (.ptr b (o+j*s)):=by
 have b1:Nat.ble (j+1) n=true:=Nat.ble_eq_true_of_le (by omega);simp only[pV,l2,qw];show cond (Nat.ble (j+1) n) (some (AV.ptr b (o+j*s))) none=_;rw[b1,cond_true]
theorem AL{s:Nat}:∀{M:List AV} {i:Nat} (hs:aL s M=true) (hi:i<M.length),((ak M).drop (i*s)).take s=M[i].cells
 |x::M,0,hs,hi=>by
  have hx:x.cells.length=s∧aL s M=true:=by simpa[aL] using hs
  show((x.cells++ak M).drop (0*s)).take s=x.cells;rw[Nat.zero_mul,List.drop_zero,←hx.1,List.take_left'];rfl
 |x::M,i+1,hs,hi=>by
  have hx:x.cells.length=s∧aL s M=true:=by simpa[aL] using hs
  have ih:=AL (i:=i) hx.2 (by simpa using hi);rw[List.getElem_cons_succ];show((x.cells++ak M).drop ((i+1)*s)).take s=_;rw[show(i+1)*s=x.cells.length+i*s by rw[hx.1,Nat.add_mul];omega,←List.drop_drop,List.drop_left',ih]
  ·rfl
theorem SZ{h0:Heap}{I n:Nat}(hI:I<h0.next){a5 a6 a7 a8:AV}{B:Nat}{Q:AX→Env→Heap→Prop}(hQ:∀e' h',Fr h0 h' [I]→bQ e' [(5,a5),(6,a6),(7,a7),(8,a8)]→Q (.exit 0) e' h'):
  ∀(m j:Nat) (h:Heap) (env:Env) (L:List Int),n-j=m→j≤n→n<2^62→L.length=n→h.get I=some (.cells (eD L) true 1)→Fr h0 h [I]→bQ env [(3,.sl I 0 n n true),(5,a5),(6,a6),(7,a7),(8,a8),(9,.int .i64 ((j:Nat):Int))]→
   VC fs ms B false (.loop eJ) env h Q:=by
 intro m;induction m with
 |zero=>
  intro j h env L hm hj hn hL hg fr bg;have he:j=n:=by omega
  subst he;refine ay 5 _ bg ?_;refine aH (aa (z:=true) ?_);conv=>whnf
  refine k7 (by simp) (fun hc=>?_)
  (try rw[hc])
  conv=>whnf
  exact hQ _ _ fr ⟨rfl,rfl,rfl,rfl,trivial⟩
 |succ m ih=>
  intro j h env L hm hj hn hL hg fr bg;have hlt:j<n:=by omega
  have hq:pV (.aB 1) [.sl I 0 n n true,.int .i64 ((j:Nat):Int)]=some (.ptr I (0+j*1)):=uJ hlt;have qI:(eD L)[0+j*1]?=some (.int .u8 (L[j]'(by omega))):=by
   rw[show 0+j*1=j by omega];simp[eD,List.getElem?_map,List.getElem?_eq_getElem (show j<L.length by omega)]
  generalize L[j]'(by omega)=c at qI;refine ay 5 _ bg ?_;refine aH (an true ?_);conv=>whnf
  refine ny (by simp;omega) (fun hc=>?_)
  (try rw[hc])
  conv=>whnf
  refine aJ (aR (aa (z:=true) ?_));conv=>whnf
  refine⟨_,hq,?_⟩;conv=>whnf
  refine⟨_,cM hg qI,?_⟩;conv=>whnf
  refine⟨_,hq,?_⟩;conv=>whnf
  refine cm (bX hg rfl (by rw[cq];omega) rfl) fun h1 e1=>?_;have f1:Fr h h1 [I]:=by rw[e1];exact(Fr.refl h _).set (by simp)
  have g1:∃L1:List Int,L1.length=n∧h1.get I=some (.cells (eD L1) true 1):=by
   obtain⟨d,hd⟩:∃d:Int,h1=h.set I (.cells (Heap.splice (eD L) (0+j*1) [.int .u8 d]) true 1):=⟨_,e1⟩;rw[hd,aA];refine⟨L.set j d,by rw[List.length_set];exact hL,?_⟩;rw[show 0+j*1=j by omega,qn _ _ _ (by rw[cq];omega),eD,eD,List.map_set]
  clear e1;obtain⟨L1,FC,g1⟩:=g1;conv=>whnf
  refine aa (z:=true) ?_;conv=>whnf
  refine ih (j+1) h1 _ L1 (by omega) (by omega) hn FC g1 (fr.trans f1) ⟨rfl,rfl,rfl,rfl,rfl,bC (by omega),trivial⟩
theorem Ss{W:List (bu×AV)}{c i b n:Nat}(hi:i<W.length)(K5:W.length≤100000)(hw:W[i].2=.sl b 0 n n true)(hn:n≤100000)(hcb:c≠b){h0:Heap}(hb:b<h0.next){a5 a7 TI:AV}{B:Nat}{Q:AX→Env→Heap→Prop}
  (hQ:∀e' h',Fr h0 h' [b]→(∃cs:List AV,cs.length=n*3∧h'.get b=some (.cells cs true 3))→bQ e' [(5,a5),(7,a7),(10,.sl c 0 W.length W.length true),(11,TI),(12,.int .i64 ((i:Nat):Int))]→Q (.exit 4) e' h'):
  ∀(m k:Nat) (h:Heap) (env:Env),n-k=m→k≤n→h.get c=some (.cells (ak (pL W)) true 6)→(∃cs:List AV,cs.length=n*3∧h.get b=some (.cells cs true 3))→Fr h0 h [b]→
   bQ env [(5,a5),(7,a7),(10,.sl c 0 W.length W.length true),(11,TI),(12,.int .i64 ((i:Nat):Int)),(13,.int .i64 ((k:Nat):Int))]→
   VC fs ms B false (.loop eL) env h Q:=by
 have hq:pV (.aB 6) [.sl c 0 W.length W.length true,.int .i64 ((i:Nat):Int)]=some (.ptr c (0+i*6)):=uJ hi;have hfl:(ak (pL W))[0+i*6+5]?=some (.sl b 0 n n true):=by
  rw[Nat.zero_add,←hw];exact nF (z:=6) (m6 W) (x:=I7 W[i]) (by rw[pL,List.getElem?_map,List.getElem?_eq_getElem hi];rfl) rfl
 intro m;induction m with
 |zero=>
  intro k h env hm hk hR hg fr bg;have he:k=n:=by omega
  subst he;refine ay 5 _ bg ?_;refine aH (aa (z:=true) ?_);conv=>whnf
  refine⟨_,hq,?_⟩;conv=>whnf
  refine⟨_,cM hR hfl,?_⟩;conv=>whnf
  refine k7 (by simp) (fun hc=>?_)
  (try rw[hc])
  conv=>whnf
  exact hQ _ _ fr hg ⟨rfl,rfl,rfl,rfl,rfl,trivial⟩
 |succ m ih=>
  intro k h env hm hk hR hg fr bg;have hlt:k<n:=by omega
  obtain⟨cs,hcs,hg⟩:=hg;have hq3:pV (.aB 3) [.sl b 0 n n true,.int .i64 ((k:Nat):Int)]=some (.ptr b (0+k*3)):=uJ hlt;refine ay 5 _ bg ?_;refine aH (an true ?_);conv=>whnf
  refine⟨_,hq,?_⟩;conv=>whnf
  refine⟨_,cM hR hfl,?_⟩;conv=>whnf
  refine ny (by simp;omega) (fun hc=>?_)
  (try rw[hc])
  conv=>whnf
  refine aJ (aR (aa (z:=true) ?_));conv=>whnf
  refine⟨_,hq,?_⟩;conv=>whnf
  refine⟨_,cM hR hfl,?_⟩;conv=>whnf
  refine⟨_,hq3,?_⟩;conv=>whnf
  refine cm (bX hg rfl (by rw[hcs];omega) rfl) fun h1 e1=>?_;have f1:Fr h h1 [b]:=by rw[e1];exact(Fr.refl h _).set (by simp)
  have c1:h1.get c=some (.cells (ak (pL W)) true 6):=by rw[e1];exact(bw hcb).trans hR
  have g1:∃cs:List AV,cs.length=n*3∧h1.get b=some (.cells cs true 3):=by
   rw[e1,aA];refine⟨_,?_,rfl⟩;rw[←hcs];exact Heap.dB _ _ _
  clear e1;conv=>whnf
  refine aa (z:=true) ?_;conv=>whnf
  refine ih (k+1) h1 _ (by omega) (by omega) c1 g1 (fr.trans f1) ⟨rfl,rfl,rfl,rfl,rfl,bC (by omega),trivial⟩
theorem O7{W:List (bu×AV)}{lo c K:Nat}(K5:W.length≤100000)(hG:∀x∈W.map (·.1),mH (x,0)){h0:Heap}(hlo:lo≤h0.next){a5 a7:AV}{B:Nat}{Q:AX→Env→Heap→Prop}(hQ:∀e' h',bQ e' [(5,a5),(7,a7)]→Q (.exit 2) e' h'):
  ∀(m i:Nat) (h:Heap) (env:Env),W.length-i=m→i≤W.length→NL lo h (.sl c 0 W.length W.length true) W i→h.get c=some (.cells (ak (pL W)) true 6)→
   bQ env [(5,a5),(7,a7),(10,.sl c 0 W.length W.length true),(11,.fz K (dA (W.map (·.1)))),(12,.int .i64 ((i:Nat):Int))]→
   VC fs ms B false (.loop di) env h Q:=by
 intro m;induction m with
 |zero=>
  intro i h env hm hi hr hR bg;have he:i=W.length:=by omega
  subst he;refine ay 5 _ bg ?_;refine aH (aa (z:=true) ?_);conv=>whnf
  refine k7 (by simp) (fun hc=>?_)
  (try rw[hc])
  conv=>whnf
  exact hQ _ _ ⟨rfl,rfl,trivial⟩
 |succ m ih=>
  intro i h env hm hi hr hR bg;have hlt:i<W.length:=by omega
  have hq:pV (.aB 6) [.sl c 0 W.length W.length true,.int .i64 ((i:Nat):Int)]=some (.ptr c (0+i*6)):=uJ hlt;have lV:=nI (k:=K) (l:=W.map (·.1)) (j:=i) (by simpa using hlt);rw[List.getElem_map] at lV;obtain⟨hk,B2⟩:=hG W[i].1 (List.mem_map.2 ⟨W[i],List.getElem_mem hlt,rfl⟩);have RU:=hr.live i hlt (Nat.le_refl _);have hfl:rV (.bt 6) [.ptr c (0+i*6)] h=some (I7 W[i]):=by
   have hle:0+i*6+6≤(ak (pL W)).length:=by rw[gX (m6 W),lD];omega
   rw[FG hR hle,Nat.zero_add];have:=AL (M:=pL W) (i:=i) (m6 W) (by rw[lD];exact hlt);rw[this];simp only[pL,List.getElem_map];rfl
  obtain⟨bs,hf,-⟩:=RU.BX (dK _) (iM _);rw[bq] at hf;have hfz:jr (fun _=>True) h (I7 W[i]) (dG W[i].1):=by
   unfold I7 dG;rw[show W[i].1.kk=cR W[i].1.ops.length from hk];exact .FR (.cons (.clean rfl) (.cons (.clean rfl) (.cons (.clean rfl) (.cons (.clean rfl) (.cons (.clean rfl) (.cons (jr.mono (fun _ _=>trivial) hf) .nil))))))
  refine ay 5 _ bg ?_;refine aH (an true ?_);conv=>whnf
  refine ny (by simp;omega) (fun hc=>?_)
  (try rw[hc])
  conv=>whnf
  refine aJ (aR (aJ (an true ?_)));conv=>whnf
  refine⟨_,hq,?_⟩;conv=>whnf
  refine⟨_,hfl,?_⟩;conv=>whnf
  refine⟨_,lV,?_⟩;conv=>whnf
  refine⟨dG W[i].1,rfl,?_⟩;conv=>whnf
  refine z6 (Ea W[i].1 (by have:W[i].1.ops.length≤100000:=B2;omega)) rfl (.cons hfz (.cons (.clean (mq _)) .nil)) ?_;conv=>whnf
  refine aa (z:=true) ?_;conv=>whnf
  have La:∀e' h',NL lo h' (.sl c 0 W.length W.length true) W (i+1)→h'.get c=some (.cells (ak (pL W)) true 6)→bQ e' [(5,a5),(7,a7),(10,.sl c 0 W.length W.length true),(11,.fz K (dA (W.map (·.1)))),(12,.int .i64 ((i:Nat):Int))]→
    VC fs ms B false (.ops [zM 68 12,zP 69 (.bin .add) [.t 68,.c (.int .i64 1)],zM 12 69]) e' h' (fun x e1 h1=>match x with|.normal=>VC fs ms B false (.loop di) e1 h1 Q|x=>Q x e1 h1):=by
   intro e' h' hr' T2 ha;refine ay 5 _ ha (aa (z:=true) ?_);conv=>whnf
   exact ih (i+1) h' _ (by omega) (by omega) hr' T2 ⟨rfl,rfl,rfl,rfl,bC (by omega),trivial⟩
  refine an true ?_;conv=>whnf
  refine aR ?_;rcases hr.val i hlt with⟨JT,FF⟩|⟨b,hv⟩
  ·have XJ:(ak (pL W))[0+i*6+5]?=some .az:=by
    rw[Nat.zero_add,←FF];exact nF (z:=6) (m6 W) (x:=I7 W[i]) (by rw[pL,List.getElem?_map,List.getElem?_eq_getElem hlt];rfl) rfl
   refine ay 5 [(5,a5),(7,a7),(10,.sl c 0 W.length W.length true),(11,.fz K (dA (W.map (·.1)))),(12,.int .i64 ((i:Nat):Int)),(13,.int .i64 0)] ⟨rfl,rfl,rfl,rfl,rfl,rfl,trivial⟩ ?_;refine aH (aa (z:=true) ?_);conv=>whnf
   refine⟨_,hq,?_⟩;conv=>whnf
   refine⟨_,cM hR XJ,?_⟩;conv=>whnf
   exact La _ h ⟨hr.row,fun j hj hi=>hr.live j hj (by omega),hr.low,hr.val,hr.EG⟩ hR ⟨rfl,rfl,rfl,rfl,rfl,trivial⟩
  ·have X7:gx W[i].2 b:=⟨_,_,_,_,hv⟩;obtain⟨q1,q2,cs,q3,q4⟩:=hr.low i hlt b X7;have hcb:c≠b:=by
    rintro rfl;rw[q4] at hR;simp at hR
   refine Ss (h0:=h) (n:=W[i].1.ops.length) hlt K5 hv B2 hcb q2 ?_ W[i].1.ops.length 0 h _ rfl (Nat.zero_le _) hR ⟨cs,q3,q4⟩ (Fr.refl _ _) ⟨rfl,rfl,rfl,rfl,rfl,rfl,trivial⟩;intro e' h' fr ⟨cs',r1,r2⟩ ha;have T2:h'.get c=some (.cells (ak (pL W)) true 6):=(fr.keep c (by
    rcases hr.row with⟨h0,_⟩|⟨_,c',_,k2,k3,_⟩
    ·rw[←List.length_eq_zero_iff,lD] at h0;omega
    ·simp only[AV.sl.injEq] at k3;rw[k3.1];exact k2) (by simpa using hcb)).trans hR
   refine La e' h' ⟨?_,fun j hj hji=>?_,fun j hj d hd=>?_,hr.val,hr.EG⟩ T2 ha
   ·refine GR.mv hr.row fr.next fun d hd=>?_;obtain⟨o,n,c',p,h9⟩:=hd;simp only[AV.sl.injEq] at h9;rw[←h9.1];exact T2.trans hR.symm
   ·refine GR.mv (hr.live j hj (by omega)) fr.next fun d hd=>?_;refine fr.keep d (hr.low j hj d hd).2.1 ?_;simp only[List.mem_singleton];rintro rfl;have:=hr.EG j i hj hlt d hd X7;omega
   ·obtain⟨s1,s2,ds,s3,s4⟩:=hr.low j hj d hd;by_cases hdb:d=b
    ·subst hdb;have:=hr.EG j i hj hlt d hd X7;subst this;exact⟨s1,Nat.lt_of_lt_of_le s2 fr.next,cs',r1,r2⟩
    ·exact⟨s1,Nat.lt_of_lt_of_le s2 fr.next,ds,s3,(fr.keep d s2 (by simpa using hdb)).trans s4⟩
end Ir
end Go.Proofs.YtmnolnoeibhjgaaGreat
