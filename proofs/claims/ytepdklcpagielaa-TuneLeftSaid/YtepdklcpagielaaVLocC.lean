/-
  Local: what Test answers.
-/
import Derived.Test.YtepdklcpagielaaVLocB
set_option maxRecDepth 100000
set_option linter.unusedSimpArgs false
set_option linter.unusedVariables false
namespace Go.Proofs.Ytepdklcpagielaa
open Go Ads
namespace Ir
def oL(ts:List Tk):Nat→Int
 |0=>0
 |j+1=>match ts[j]? with
  |some t=>mx (oL ts j) t.d
  |none=>oL ts j
theorem Bm{ts:List Tk}{j:Nat}(h:j<ts.length):oL ts (j+1)=mx (oL ts j) ts[j].d:=by
 rw[oL,List.getElem?_eq_getElem h]
theorem Ho{ts:List Tk}(h:∀t,t∈ts→1≤t.d∧t.d≤64):∀j,j≤ts.length→0≤oL ts j∧oL ts j≤64∧∀(i:Nat) (hi:i<ts.length),i<j→ts[i].d≤oL ts j
 |0,_=>⟨by simp[oL],by simp[oL],fun i _ h=>by omega⟩
 |j+1,hj=>by
  have hlt:j<ts.length:=by omega
  obtain⟨h1,h2,h3⟩:=Ho h j (by omega);have h4:=h _ (List.getElem_mem hlt);rw[Bm hlt,rO];refine⟨by omega,by omega,fun i hi hij=>?_⟩;by_cases abx:i=j
  ·subst abx;omega
  ·have:=h3 i hi (by omega);omega
def DN(x:Pt)(h:Int):Int:=mK [h,oL x.ts x.ts.length,x.cJ,x.cJ]
def M4(x:Pt)(l:List Pt)(a:Int)(m:List Int):Int×Int:=
 if(pz x.ts x.cJ).2≠0 then(0,(pz x.ts x.cJ).2)
 else if(yC x.ts m (pz x.ts x.cJ).1).1>IntKind.i64.wrap (IntKind.i64.wrap ((pz x.ts x.cJ).1.tdiv x.cJ)*x.cn) then(0,120)
 else match eA (Fo x l a m) 1 (DN x (pz x.ts x.cJ).1).toNat with
  |some t=>((t:Nat),120)
  |none=>(0,0)
def B0(l:List Pt)(a:Int):Int×Int:=if bG l=2 then(0,2) else if a<0 then(0,9) else match l[a.toNat]? with
 |none=>(0,9)
 |some x=>if x.ts.length=0 then(0,0) else M4 x l a (pJ l a.toNat)
theorem ON{x:Pt}{h:Int}(hh:0≤h∧h≤4096)(hf:0≤oL x.ts x.ts.length∧oL x.ts x.ts.length≤64)(hp:1≤x.cJ∧x.cJ≤64):DN x h=h+oL x.ts x.ts.length+x.cJ+x.cJ:=by
 simp only[DN,mK,List.foldl_cons,List.foldl_nil];rw[IntWalk.i64_in (0+_) (by omega),IntWalk.i64_in (0+h+_) (by omega),IntWalk.i64_in (0+h+_+_) (by omega),IntWalk.i64_in _ (by omega)];omega
theorem SS(ts:List Tk)(n:Int)(h:(pz ts n).2=0):0≤(pz ts n).1∧(pz ts n).1≤4096:=by
 unfold pz at h⊢;split
 ·split
  ·rename_i h1 h2;constructor
   ·show(0:Int)≤((mE ts n.toNat:Nat):Int);omega
   ·show((mE ts n.toNat:Nat):Int)≤4096;omega
  ·simp
 ·simp
set_option maxHeartbeats 1000000 in
theorem Zn(k:Nat)(l:List Pt)(a:Int)(hs:Small l):PC fs ms 99 [.fz k (pts l),.int .i64 a] (qO (B0 l a)):=by
 refine aX (by simp[bL,AV.cl,bz]) rfl ?_;refine aC (af:=YD) false rfl (Nat.le_of_ble_eq_true rfl) ?_;generalize hQ:(fun(v:AV) (_:Heap)=>v=qO (B0 l a))=Q;conv=>whnf
 rcases w9 l with h|h
 ·by_cases ha:a<0∨l.length≤a
  ·refine au (PB k l a hs h ha) ?_;conv=>whnf
   refine⟨dc (by(conv=>whnf);repeat' (first|exact trivial|(exact⟨rfl,rfl,.inr ⟨_,_,rfl⟩⟩)|(refine⟨rfl,rfl,.inl ⟨rfl,fun o ho=>?_⟩⟩;cases ho;first|rfl)|(exact⟨rfl,.inr ⟨_,_,rfl⟩⟩)|(refine⟨rfl,.inl ⟨rfl,fun i o hi ho=>?_⟩⟩;cases hi;cases ho;first|rfl)|(refine And.intro (fun dZ=>(Bool.false_ne_true dZ).elim) ?_<;>conv=>whnf)|(refine And.intro (fun _=>?_) ?_<;>conv=>whnf)|(refine And.intro ?_ ?_<;>conv=>whnf))),?_⟩;conv=>whnf
   subst hQ;rw[B0,if_neg (by omega)];by_cases h0:a<0
   ·rw[if_pos h0];rfl
   ·rw[if_neg h0,List.getElem?_eq_none (by omega)];rfl
  ·obtain⟨i,rfl⟩:=Int.eq_ofNat_of_zero_le (show 0≤a by omega);have hi:i<l.length:=by omega
   have hd:B0 l (i:Nat)=if l[i].ts.length=0 then(0,0) else M4 l[i] l (i:Nat) (pJ l i):=by
    rw[B0,if_neg (by omega),if_neg (by omega),show((i:Int)).toNat=i from rfl,List.getElem?_eq_getElem hi]
   have hts:=hs.2 _ (List.getElem_mem hi);have hml:=I7 hi;have hok:=(vt h).2 _ (List.getElem_mem hi);have Uw:=Te k l i hs h hi;generalize pJ l i=M at*;generalize l[i]=x at*;have hdl:∀t,t∈x.ts→1≤t.d∧t.d≤64:=fun t ht=>by have:=wT (hok.2.2 t ht).1;omega
   have Ux:=hok.1;unfold nQ at Ux;refine au (Uw) ?_;conv=>whnf
   by_cases h0:x.ts.length=0
   ·rw[bM,h0];conv=>whnf
    refine⟨dc (by(conv=>whnf);repeat' (first|exact trivial|(exact⟨rfl,rfl,.inr ⟨_,_,rfl⟩⟩)|(refine⟨rfl,rfl,.inl ⟨rfl,fun o ho=>?_⟩⟩;cases ho;first|rfl)|(exact⟨rfl,.inr ⟨_,_,rfl⟩⟩)|(refine⟨rfl,.inl ⟨rfl,fun i o hi ho=>?_⟩⟩;cases hi;cases ho;first|rfl)|(refine And.intro (fun dZ=>(Bool.false_ne_true dZ).elim) ?_<;>conv=>whnf)|(refine And.intro (fun _=>?_) ?_<;>conv=>whnf)|(refine And.intro ?_ ?_<;>conv=>whnf))),?_⟩;conv=>whnf
    subst hQ;rw[hd,if_pos h0];rfl
   ·rw[if_neg h0] at hd;refine lY (by rw[bM];simpa using h0) (fun hc=>?_)
    (try rw[hc])
    conv=>whnf
    have Zb:=hok.2.1;have hhy:=KI x.k x.ts x.cJ (by omega);have Wf:=fun n=>RO x.k 2 x.ts M n (by omega) (by omega);have Pa:=SS x.ts x.cJ;have Su:=Ho hdl x.ts.length (Nat.le_refl _);have abE:=fun(fin:Nat) (jM:fin<1048576) (F:AV) (hF:F.cl=true)=>WK x k l (i:Nat) M fin jM hF hs hts (by omega);have Rc:=fun n=>MU x k l (i:Nat) M n;have abj:=w7 x k l (i:Nat) M;unfold M4 at hd;generalize pz x.ts x.cJ=H at*;obtain⟨hh,he⟩:=H;simp only at hd Pa;refine au (hhy) ?_;conv=>whnf
    by_cases Lk:he=0
    ·subst Lk;rw[if_neg (by simp)] at hd;have Pa:=Pa rfl;conv=>whnf
     refine au (Wf hh) ?_;generalize yC x.ts M hh=U at*;obtain⟨us,ue⟩:=U;simp only at hd;conv=>whnf
     refine⟨_,jU _ _ (by omega),?_⟩;conv=>whnf
     generalize hB:IntKind.i64.wrap (IntKind.i64.wrap (hh.tdiv x.cJ)*x.cn)=B at*;by_cases hu:us>B
     ·refine kO (decide_eq_true hu) (fun hc=>?_)
      (try rw[hc])
      conv=>whnf
      subst hQ;rw[hd,if_pos hu];rfl
     ·rw[if_neg hu] at hd;refine lY (decide_eq_false hu) (fun hc=>?_)
      (try rw[hc])
      conv=>whnf
      have jQ:bL (lk x k l (i:Nat) M).cells=true:=cI abj;refine dV [2] (i:=6) (v':=.fp (lk x k l (i:Nat) M).cells 0) rfl (.ptr' (by simp) rfl (.clean (l:=(lk x k l (i:Nat) M).cells) jQ)) ?_;refine z8 (B:=0) (d:=7) (l:=[(4,.ptr 0 0),(5,.ptr 1 0),(6,.fp (lk x k l (i:Nat) M).cells 0),(7,.int .i64 hh),(10,.int .i64 (oL x.ts 0)),(67,.fz x.k (dI x.ts)),(68,.int .i64 (dI x.ts).length),(69,.int .i64 ((0:Nat):Int))]) (yW (.cells [.int .i64 0] true 0) (.cells [.int .i64 0] true 0)) id (by repeat' (first|exact trivial|refine bI rfl (by omega) ?_|refine bg rfl (by omega) ?_|refine aR rfl (by omega) ?_|refine aJ rfl (by first|rfl|simp[bL,AV.cl,aS,cq,jQ]) ?_|refine aJ (ay (by omega)) rfl ?_)) ⟨by omega,⟨_,rfl,ep rfl rfl⟩,by omega,⟨_,rfl,ep rfl rfl⟩,trivial⟩ (by intro b c hb hc h;exact h) (by intro b hb;omega) (by omega) ?_;refine o9 0 7 x.ts.length (fun _=>True) (fun j=>[(4,.ptr 0 0),(5,.ptr 1 0),(6,.fp (lk x k l (i:Nat) M).cells 0),(7,.int .i64 hh),(10,.int .i64 (oL x.ts j)),(67,.fz x.k (dI x.ts)),(68,.int .i64 (dI x.ts).length),(69,.int .i64 ((j:Nat):Int))]) (fun _=>⟨2,.node (.node .nil (some (.cells [.int .i64 0] true 0)) .nil) (some (.cells [.int .i64 0] true 0)) .nil⟩) ?_ ?_ trivial
      ·intro j hj _;have hn:=Bm hj;have rG:=iP (k:=x.k) hj;generalize x.ts[j]=t at*;show tJ fs ms 0 false false _ (ek 7 [(4,.ptr 0 0),(5,.ptr 1 0),(6,.fp (lk x k l (i:Nat) M).cells 0),(7,.int .i64 hh),(10,.int .i64 (oL x.ts j)),(67,.fz x.k (dI x.ts)),(68,.int .i64 (dI x.ts).length),(69,.int .i64 ((j:Nat):Int))]) _ _;generalize oL x.ts j=f at*;conv=>whnf
       refine kO (by rw[bM];simp;omega) (fun hc=>?_)
       (try rw[hc])
       conv=>whnf
       refine⟨_,rG,?_⟩;conv=>whnf
       refine⟨trivial,id,wh (yW (.cells [.int .i64 0] true 0) (.cells [.int .i64 0] true 0)) id ⟨⟨_,rfl,.ptr (by omega)⟩,⟨_,rfl,.ptr (by omega)⟩,⟨_,rfl,.cl (by simp[AV.cl,jQ])⟩,⟨_,rfl,.cl rfl⟩,⟨_,congrArg (fun n=>some (AV.int .i64 n)) hn.symm,.cl rfl⟩,⟨_,rfl,.cl (by simp[AV.cl,cq])⟩,⟨_,rfl,.cl rfl⟩,⟨_,ay (by omega),.cl rfl⟩,trivial⟩ ⟨by omega,⟨_,rfl,ep rfl rfl⟩,by omega,⟨_,rfl,ep rfl rfl⟩,trivial⟩ (by intro b c hb hc h;exact h) (by intro b hb;omega) (by omega)⟩
      ·intro _;have hE:=ON (x:=x) Pa ⟨Su.1,Su.2.1⟩ ⟨Ux.1,Ux.2.1⟩;have hend:DN x hh=((DN x hh).toNat:Nat):=(Int.toNat_of_nonneg (by omega)).symm;have hlt:(DN x hh).toNat<1048576:=by omega
       have FU:DN x hh=mK [hh,oL x.ts x.ts.length,x.cJ,x.cJ]:=rfl;generalize DN x hh=en at*;generalize en.toNat=fin at*;subst hend;clear Su hdl hE;show tJ fs ms 0 false false _ (ek 7 [(4,.ptr 0 0),(5,.ptr 1 0),(6,.fp (lk x k l (i:Nat) M).cells 0),(7,.int .i64 hh),(10,.int .i64 (oL x.ts x.ts.length)),(67,.fz x.k (dI x.ts)),(68,.int .i64 (dI x.ts).length),(69,.int .i64 ((x.ts.length:Nat):Int))]) _ _;generalize oL x.ts x.ts.length=far at*;conv=>whnf
       refine lY (by rw[bM];simp) (fun hc=>?_)
       (try rw[hc])
       conv=>whnf
       refine ji (Md 2 [hh,far,x.cJ,x.cJ] (by simp)) rfl (.cons (.row (s:=1) trivial rfl (by rfl) (lF _) (by simp[ints]) (Nat.le_refl _) (by omega) (fun _=>rfl) (fun _=>rfl) (aS _)) .nil) ?_;rw[←FU];conv=>whnf
       refine au (Rc _) ?_;conv=>whnf
       refine⟨dc (by(conv=>whnf);repeat' (first|exact trivial|(exact⟨rfl,rfl,.inr ⟨_,_,rfl⟩⟩)|(refine⟨rfl,rfl,.inl ⟨rfl,fun o ho=>?_⟩⟩;cases ho;first|rfl)|(exact⟨rfl,.inr ⟨_,_,rfl⟩⟩)|(refine⟨rfl,.inl ⟨rfl,fun i o hi ho=>?_⟩⟩;cases hi;cases ho;first|rfl)|(refine And.intro (fun dZ=>(Bool.false_ne_true dZ).elim) ?_<;>conv=>whnf)|(refine And.intro (fun _=>?_) ?_<;>conv=>whnf)|(refine And.intro ?_ ?_<;>conv=>whnf))),?_⟩;conv=>whnf
       have hF:(AV.func (.func 121) [] [.fp [.int .i64 (fin:Nat)] 0,.fp (lk x k l (i:Nat) M).cells 0]).cl=true:=by simp[AV.cl,bL,jQ]
       refine z8 (B:=0) (d:=7) (l:=[(4,.ptr 0 0),(5,.ptr 1 0),(89,.func (.func 121) [] [.fp [.int .i64 (fin:Nat)] 0,.fp (lk x k l (i:Nat) M).cells 0])]) (yW (.cells [.int .i64 0] true 0) (.cells [.int .i64 0] true 0)) id (by repeat' (first|exact trivial|refine bI rfl (by omega) ?_|refine bg rfl (by omega) ?_|refine aR rfl (by omega) ?_|refine aJ rfl (by first|rfl|simp[bL,AV.cl,aS,jQ]) ?_|refine aJ (ay (by omega)) rfl ?_)) ⟨by omega,⟨_,rfl,ep rfl rfl⟩,by omega,⟨_,rfl,ep rfl rfl⟩,trivial⟩ (by intro b c hb hc h;exact h) (by intro b hb;omega) (by omega) ?_;show VC fs ms 0 false (.rangeFunc (.t 89) [90,91] lA lB) _ _ _;refine E1 rfl rfl ?_;refine VD.mono (abE fin hlt _ hF) fun v h2 h3=>?_;subst h3;cases wz:eA (Fo x l (i:Nat) M) 1 fin with
       |none=>
        rw[wz] at hd;refine⟨.normal,0,rfl,by decide,by simp,?_⟩;conv=>whnf
        subst hQ;rw[hd];rfl
       |some t=>
        rw[wz] at hd;refine⟨.ret,2,rfl,by decide,by simp,?_⟩;conv=>whnf
        subst hQ;rw[hd];rfl
    ·refine kO (by simpa using Lk) (fun hc=>?_)
     (try rw[hc])
     conv=>whnf
     refine⟨dc (by(conv=>whnf);repeat' (first|exact trivial|(exact⟨rfl,rfl,.inr ⟨_,_,rfl⟩⟩)|(refine⟨rfl,rfl,.inl ⟨rfl,fun o ho=>?_⟩⟩;cases ho;first|rfl)|(exact⟨rfl,.inr ⟨_,_,rfl⟩⟩)|(refine⟨rfl,.inl ⟨rfl,fun i o hi ho=>?_⟩⟩;cases hi;cases ho;first|rfl)|(refine And.intro (fun dZ=>(Bool.false_ne_true dZ).elim) ?_<;>conv=>whnf)|(refine And.intro (fun _=>?_) ?_<;>conv=>whnf)|(refine And.intro ?_ ?_<;>conv=>whnf))),?_⟩;conv=>whnf
     subst hQ;rw[hd,if_pos Lk];rfl
 ·refine au (PA k l a hs h) ?_;conv=>whnf
  refine⟨dc (by(conv=>whnf);repeat' (first|exact trivial|(exact⟨rfl,rfl,.inr ⟨_,_,rfl⟩⟩)|(refine⟨rfl,rfl,.inl ⟨rfl,fun o ho=>?_⟩⟩;cases ho;first|rfl)|(exact⟨rfl,.inr ⟨_,_,rfl⟩⟩)|(refine⟨rfl,.inl ⟨rfl,fun i o hi ho=>?_⟩⟩;cases hi;cases ho;first|rfl)|(refine And.intro (fun dZ=>(Bool.false_ne_true dZ).elim) ?_<;>conv=>whnf)|(refine And.intro (fun _=>?_) ?_<;>conv=>whnf)|(refine And.intro ?_ ?_<;>conv=>whnf))),?_⟩;conv=>whnf
  subst hQ;rw[B0,if_pos h];rfl
end Ir
end Go.Proofs.Ytepdklcpagielaa
