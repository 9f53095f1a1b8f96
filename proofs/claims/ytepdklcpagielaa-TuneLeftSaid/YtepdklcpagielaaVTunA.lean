/-
  Tune: partitions cut to a few more than there may be.
-/
import Derived.Test.YtepdklcpagielaaVLocO
set_option maxRecDepth 100000
set_option linter.unusedSimpArgs false
set_option linter.unusedVariables false
namespace Go.Proofs.Ytepdklcpagielaa
open Go Ads
namespace Ir
def DJ(x:Pt):Pt:=⟨x.cJ,x.cn,gv (x.ts.take 6).length,x.ts.take 6⟩
def dO(l:List Pt):List Pt:=(l.take 6).map DJ
def U4(k:Nat)(l:List Pt)(j:Nat):List (Nat×AV):=[(0,.fz k (pts l)),(3,JU 0 j),(4,.int .i64 (j:Nat))]
theorem uW:∀l:List Tk,bx (ai (dI l))=true
 |[]=>rfl
 |x::l=>by
  show bx (.int .i64 x.p::.int .i64 x.d::.int .i64 x.w::.int .i64 x.a::.int .i64 x.b::.int .i64 x.c::.int .i64 x.e::.int .i64 x.f::ai (dI l))=true;simp only[bx,AV.flat,cond_true];exact uW l
theorem EP(k:Nat)(ts:List Tk)(n:Nat)(hn:n≤ts.length):pV (.slice 8 false true false) [.fz k (dI ts),.int .i64 (n:Nat)]=some (.fz (cV k false n ts.length ts.length) (dI (ts.take n))):=by
 have hb:bounds (dI ts).length (dI ts).length false true false [.int .i64 (n:Nat)]=some (0,n,(dI ts).length):=by
  show cond (Nat.ble 0 n&&Nat.ble n (dI ts).length&&Nat.ble (dI ts).length (dI ts).length) _ _=_;rw[Nat.ble_eq_true_of_le (Nat.zero_le n),Nat.ble_eq_true_of_le (by rw[bM];exact hn),Nat.ble_eq_true_of_le (Nat.le_refl _)];rfl
 show lG 8 false true false k (dI ts) [.int .i64 (n:Nat)]=_;rw[lG,hb];simp only[show Nat.beq 0 0=true from rfl,Bool.not_true,Bool.and_false,cond_false,iX,cond_true,List.drop_zero,Nat.sub_zero,bM,M7]
theorem FA(k:Nat)(l:List Pt)(hs:Small l):VD fs ms 28 [.fz k (pts l)] ⟨0,.nil⟩ (fun v g=>v=JU 0 (dO l).length∧g=H3 (K5 3 (pts (dO l)) (dO l).length) none none):=by
 refine aC (af:=XH) false rfl (Nat.le_of_ble_eq_true rfl) ?_;generalize hQ:(fun(v:AV) (g:Heap)=>v=JU 0 (dO l).length∧g=H3 (K5 3 (pts (dO l)) (dO l).length) none none)=Q;conv=>whnf
 have hN:(dO l).length=min 6 l.length:=by simp[dO]
 refine GV (B:=0) (d:=5) (l:=U4 k l 0) (O:=K5 3 (pts (dO l)) 0) (X:=none) (I:=none) id ?_ jt jt jt (by decide) (by decide) (by decide) (by intro b hb;omega) (by omega) ?_
 ·exact⟨⟨_,rfl,.cl (by simp[AV.cl,bz])⟩,⟨_,rfl,.cl rfl⟩,⟨_,rfl,.cl rfl⟩,trivial⟩
 refine K1 0 5 (dO l).length (U4 k l) (fun j=>H3 (K5 3 (pts (dO l)) j) none none) ?_ ?_
 ·intro j hj K hK;have hjl:j<l.length:=by omega
  have hj6:j<6:=by omega
  have hT:(dO l).take (j+1)=(dO l).take j++[DJ l[j]]:=by
   rw[eY hj];simp[dO]
  have rG:=gH (k:=k) hjl;have hxs:=hs.2 _ (List.getElem_mem hjl);have IU:=bz (dO l);have Wl:=fE (dO l);have xP:∀n,(pts (dO l)).take n=pts ((dO l).take n):=fun n=>vA _ n;generalize l[j]=x at*;generalize hL:dO l=L at*;obtain⟨cJ,cn,kk,ts⟩:=x;have Rc:=EP kk ts (min 6 ts.length) (by omega);have Wm:ts.take (min 6 ts.length)=ts.take 6:=by
   by_cases h6:6≤ts.length
   ·rw[Nat.min_eq_left h6]
   ·rw[Nat.min_eq_right (by omega),List.take_length,List.take_of_length_le (by omega)]
  rw[Wm] at Rc;have hmn:(bif decide (6<((dI ts).length:Int)) then(6:Int) else((dI ts).length:Int))=((min 6 ts.length:Nat):Int):=by
   rw[bM];by_cases h6:(6:Int)<(ts.length:Int)
   ·rw[decide_eq_true h6,cond_true];omega
   ·rw[decide_eq_false h6,cond_false];omega
  refine az (aa (z:=false) ?_);conv=>whnf
  refine kO (by rw[bh];simp;omega) (fun hc=>?_)
  (try rw[hc])
  conv=>whnf
  refine kO (by simp;omega) (fun hc=>?_)
  (try rw[hc])
  conv=>whnf
  refine az (aL ?_);refine aj false ?_;conv=>whnf
  refine⟨_,rG,?_⟩;conv=>whnf
  refine aj false ?_;conv=>whnf
  refine aj false ?_;conv=>whnf
  rw[show(bif decide (6<((dI (Pt.mk cJ cn kk ts).ts).length:Int)) then(6:Int) else((dI (Pt.mk cJ cn kk ts).ts).length:Int))=((min 6 ts.length:Nat):Int) from hmn];refine⟨_,Rc,?_⟩;conv=>whnf
  cases hm:ts.take 6 with
  |nil=>
   have hcp:DJ ⟨cJ,cn,kk,ts⟩=⟨cJ,cn,3,[]⟩:=by simp only[DJ,hm];rfl
   rw[hcp] at hT;refine⟨_,_,AZ (qB (l:=dI []) rfl) rfl,?_⟩;conv=>whnf
   refine dV [3] (i:=5) (v':=.fp [.int .i64 cJ,.int .i64 cn,.fz 3 []] 0) rfl (.ptr' (by simp) rfl (.cons (.clean rfl) (.cons (.clean rfl) (.cons .aD .nil)))) ?_;refine GV (B:=0) (d:=5) (l:=[(0,.fz k (pts l)),(3,JU 0 j),(4,.int .i64 ((j:Nat):Int)),(5,.fp [.int .i64 cJ,.int .i64 cn,.fz 3 []] 0)]) (O:=K5 3 (pts L) j) (X:=none) (I:=none) id ?_ (Hf (K6 IU j) rfl) jt jt (by decide) (by decide) (by decide) (by intro b hb;omega) (by omega) ?_
   ·exact⟨⟨_,rfl,.cl (by simp[AV.cl,bz])⟩,⟨_,rfl,K7 rfl (by omega) j⟩,⟨_,rfl,.cl rfl⟩,⟨_,rfl,.cl (by simp[AV.cl,bL,cq])⟩,trivial⟩
   refine aa (z:=false) ?_;conv=>whnf
   cases j with
   |zero=>
    refine⟨_,_,sI (cs:=[.int .i64 cJ,.int .i64 cn,.fz 3 []]) (by omega) rfl rfl,?_⟩;conv=>whnf
    refine aa (z:=false) ?_;conv=>whnf
    refine hK _ _ (fun b=>bif Nat.beq b 0 then 4 else b) (Uk _ ?_ (sX ⟨_,rfl,ep ?_ (sR (uR IU _))⟩) jt jt (by decide) (by decide) (by decide) (by intro b hb;omega) (by omega))
    ·exact⟨⟨_,rfl,.cl (by simp[AV.cl,bz])⟩,⟨_,rfl,.sl (by omega)⟩,⟨_,ay (j:=0) (by omega),.cl rfl⟩,trivial⟩
    ·show [.int .i64 cJ,.int .i64 cn,.fz 3 []]=ai ((pts L).take (0+1));rw[xP,hT];rfl
   |succ j=>
    have hle:j+1≤L.length:=by omega
    refine⟨_,_,A9 (cs:=[.int .i64 cJ,.int .i64 cn,.fz 3 []]) (vs:=ai ((pts L).take (j+1))) rfl (by rw[c9 (size_take Wl _),List.length_take,bh,Nat.min_eq_left hle]) (by omega) (by omega) rfl rfl,?_⟩;conv=>whnf
    refine aa (z:=false) ?_;conv=>whnf
    refine hK _ _ (fun b=>bif Nat.beq b 0 then 4 else b) (Uk _ ?_ (sX ⟨_,rfl,ep ?_ (sR (uR IU _))⟩) jt jt (by decide) (by decide) (by decide) (by intro b hb;omega) (by omega))
    ·exact⟨⟨_,rfl,.cl (by simp[AV.cl,bz])⟩,⟨_,rfl,.sl (by omega)⟩,⟨_,ay (j:=j+1) (by omega),.cl rfl⟩,trivial⟩
    ·show ai ((pts L).take (j+1))++[.int .i64 cJ,.int .i64 cn,.fz 3 []]=ai ((pts L).take (j+1+1));rw[xP,xP,hT,pts,pts,List.map_append,kE];rfl
  |cons t0 tr=>
   have hcp:DJ ⟨cJ,cn,kk,ts⟩=⟨cJ,cn,0,t0::tr⟩:=by simp only[DJ,hm];rfl
   rw[hcp] at hT;have hlen:tr.length≤5:=by
    have:(ts.take 6).length≤6:=by simp;omega
    rw[hm] at this;simpa using this
   refine⟨_,_,A1 (n:=tr.length) (by omega) (by omega) ((qB (iX (t0::tr))).trans (by rw[bM];rfl)) (uW (t0::tr)),?_⟩;conv=>whnf
   refine dV [3,4] (i:=5) (v':=.fp [.int .i64 cJ,.int .i64 cn,.fz 0 (dI (t0::tr))] 0) rfl (.ptr' (by simp) rfl (.cons (.clean rfl) (.cons (.clean rfl) (.cons (gW (s:=8) (by simp) rfl rfl (iX _) (by rw[bM];rfl) (cq _)) .nil)))) ?_;refine GV (B:=0) (d:=5) (l:=[(0,.fz k (pts l)),(3,JU 0 j),(4,.int .i64 ((j:Nat):Int)),(5,.fp [.int .i64 cJ,.int .i64 cn,.fz 0 (dI (t0::tr))] 0)]) (O:=K5 3 (pts L) j) (X:=none) (I:=none) id ?_ (Hf (K6 IU j) rfl) jt jt (by decide) (by decide) (by decide) (by intro b hb;omega) (by omega) ?_
   ·exact⟨⟨_,rfl,.cl (by simp[AV.cl,bz])⟩,⟨_,rfl,K7 rfl (by omega) j⟩,⟨_,rfl,.cl rfl⟩,⟨_,rfl,.cl (by simp[AV.cl,bL,cq])⟩,trivial⟩
   refine aa (z:=false) ?_;conv=>whnf
   cases j with
   |zero=>
    refine⟨_,_,sI (cs:=[.int .i64 cJ,.int .i64 cn,.fz 0 (dI (t0::tr))]) (by omega) rfl rfl,?_⟩;conv=>whnf
    refine aa (z:=false) ?_;conv=>whnf
    refine hK _ _ (fun b=>bif Nat.beq b 0 then 4 else b) (Uk _ ?_ (sX ⟨_,rfl,ep ?_ (sR (uR IU _))⟩) jt jt (by decide) (by decide) (by decide) (by intro b hb;omega) (by omega))
    ·exact⟨⟨_,rfl,.cl (by simp[AV.cl,bz])⟩,⟨_,rfl,.sl (by omega)⟩,⟨_,ay (j:=0) (by omega),.cl rfl⟩,trivial⟩
    ·show [.int .i64 cJ,.int .i64 cn,.fz 0 (dI (t0::tr))]=ai ((pts L).take (0+1));rw[xP,hT];rfl
   |succ j=>
    have hle:j+1≤L.length:=by omega
    refine⟨_,_,A9 (cs:=[.int .i64 cJ,.int .i64 cn,.fz 0 (dI (t0::tr))]) (vs:=ai ((pts L).take (j+1))) rfl (by rw[c9 (size_take Wl _),List.length_take,bh,Nat.min_eq_left hle]) (by omega) (by omega) rfl rfl,?_⟩;conv=>whnf
    refine aa (z:=false) ?_;conv=>whnf
    refine hK _ _ (fun b=>bif Nat.beq b 0 then 4 else b) (Uk _ ?_ (sX ⟨_,rfl,ep ?_ (sR (uR IU _))⟩) jt jt (by decide) (by decide) (by decide) (by intro b hb;omega) (by omega))
    ·exact⟨⟨_,rfl,.cl (by simp[AV.cl,bz])⟩,⟨_,rfl,.sl (by omega)⟩,⟨_,ay (j:=j+1) (by omega),.cl rfl⟩,trivial⟩
    ·show ai ((pts L).take (j+1))++[.int .i64 cJ,.int .i64 cn,.fz 0 (dI (t0::tr))]=ai ((pts L).take (j+1+1));rw[xP,xP,hT,pts,pts,List.map_append,kE];rfl
 ·have tS:Q (JU 0 (dO l).length) (H3 (K5 3 (pts (dO l)) (dO l).length) none none):=by
   subst hQ;exact⟨rfl,rfl⟩
  clear hQ;refine lU (z:=false) ?_;show tJ fs ms 0 false false _ (ek 5 [(0,.fz k (pts l)),(3,JU 0 (dO l).length),(4,.int .i64 ((dO l).length:Nat))]) _ _;generalize H3 (K5 3 (pts (dO l)) (dO l).length) none none=G at*;generalize JU 0 (dO l).length=V at*;generalize(dO l).length=n at*;by_cases hn:n<l.length
  ·have hn4:n=6:=by omega
   conv=>whnf
   refine kO (by rw[bh];simp;omega) (fun hc=>?_)
   (try rw[hc])
   conv=>whnf
   refine lY (by simp;omega) (fun hc=>?_)
   (try rw[hc])
   conv=>whnf
   exact tS
  ·conv=>whnf
   refine lY (by rw[bh];simp;omega) (fun hc=>?_)
   (try rw[hc])
   conv=>whnf
   exact tS
theorem Fz(k:Nat)(l:List Pt)(hs:Small l):PC fs ms 28 [.fz k (pts l)] (.fz (gv (dO l).length) (pts (dO l))):=by
 refine⟨by simp[bL,AV.cl,bz],by simp[AV.cl,bz],(FA k l hs).mono fun v g hv=>?_⟩;obtain⟨rfl,rfl⟩:=hv;exact Sd (s:=3) (fE _) (bz _) trivial _ (bh _).symm rfl
end Ir
end Go.Proofs.Ytepdklcpagielaa
