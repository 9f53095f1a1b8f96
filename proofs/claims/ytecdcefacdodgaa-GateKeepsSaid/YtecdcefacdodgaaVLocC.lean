/-
  Local: what Test answers.
-/
import Derived.Test.YtecdcefacdodgaaVLocB
set_option maxRecDepth 100000
set_option linter.unusedSimpArgs false
set_option linter.unusedVariables false
namespace Go.Proofs.Ytecdcefacdodgaa
open Go Ads
namespace Ir
def jt(ts:List Tk):Nat→Int
 |0=>0
 |j+1=>match ts[j]? with
  |some t=>mx (jt ts j) t.d
  |none=>jt ts j
theorem yz{ts:List Tk}{j:Nat}(h:j<ts.length):jt ts (j+1)=mx (jt ts j) ts[j].d:=by
 rw[jt,List.getElem?_eq_getElem h]
theorem uW{ts:List Tk}(h:∀t,t∈ts→1≤t.d∧t.d≤64):∀j,j≤ts.length→0≤jt ts j∧jt ts j≤64∧∀(i:Nat) (hi:i<ts.length),i<j→ts[i].d≤jt ts j
 |0,_=>⟨by simp[jt],by simp[jt],fun i _ h=>by omega⟩
 |j+1,hj=>by
  have hlt:j<ts.length:=by omega
  obtain⟨h1,h2,h3⟩:=uW h j (by omega);have h4:=h _ (List.getElem_mem hlt);rw[yz hlt,iO];refine⟨by omega,by omega,fun i hi hij=>?_⟩;by_cases VX:i=j
  ·subst VX;omega
  ·have:=h3 i hi (by omega);omega
def Be(x:Pt)(h:Int):Int:=jX [h,jt x.ts x.ts.length,x.bV,x.bV]
def sQ(x:Pt)(l:List Pt)(a:Int)(m:List Int):Int×Int:=
 if(mJ x.ts x.bV).2≠0 then(0,(mJ x.ts x.bV).2)
 else if(vw x.ts m (mJ x.ts x.bV).1).1>IntKind.i64.wrap (IntKind.i64.wrap ((mJ x.ts x.bV).1.tdiv x.bV)*x.cE) then(0,120)
 else match b9 (rQ x l a m) 1 (Be x (mJ x.ts x.bV).1).toNat with
  |some t=>((t:Nat),120)
  |none=>(0,0)
def cB(l:List Pt)(a:Int):Int×Int:=if aB l=2 then(0,2) else if a<0 then(0,9) else match l[a.toNat]? with
 |none=>(0,9)
 |some x=>if x.ts.length=0 then(0,0) else sQ x l a (cO l a.toNat)
theorem EJ{x:Pt}{h:Int}(hh:0≤h∧h≤4096)(hf:0≤jt x.ts x.ts.length∧jt x.ts x.ts.length≤64)(hp:1≤x.bV∧x.bV≤64):Be x h=h+jt x.ts x.ts.length+x.bV+x.bV:=by
 simp only[Be,jX,List.foldl_cons,List.foldl_nil];rw[IntWalk.i64_in (0+_) (by omega),IntWalk.i64_in (0+h+_) (by omega),IntWalk.i64_in (0+h+_+_) (by omega),IntWalk.i64_in _ (by omega)];omega
theorem Pg(ts:List Tk)(n:Int)(h:(mJ ts n).2=0):0≤(mJ ts n).1∧(mJ ts n).1≤4096:=by
 unfold mJ at h⊢;split
 ·split
  ·rename_i h1 h2;constructor
   ·show(0:Int)≤((gU ts n.toNat:Nat):Int);omega
   ·show((gU ts n.toNat:Nat):Int)≤4096;omega
  ·simp
 ·simp
set_option maxHeartbeats 1000000 in
theorem Mt(k:Nat)(l:List Pt)(a:Int)(hs:Small l):PC fs ms 55 [.fz k (pts l),.int .i64 a] (oh (cB l a)):=by
 refine bq (by simp[bn,AV.cl,aS]) rfl ?_;refine aA (af:=S9) false rfl (Nat.le_of_ble_eq_true rfl) ?_;generalize hQ:(fun(v:AV) (_:Heap)=>v=oh (cB l a))=Q;conv=>whnf
 rcases uc l with h|h
 ·by_cases ha:a<0∨l.length≤a
  ·refine ai (Ms k l a hs h ha) ?_;conv=>whnf
   refine⟨dP (by(conv=>whnf);repeat' (first|exact trivial|(exact⟨rfl,rfl,.inr ⟨_,_,rfl⟩⟩)|(refine⟨rfl,rfl,.inl ⟨rfl,fun o ho=>?_⟩⟩;cases ho;first|rfl)|(exact⟨rfl,.inr ⟨_,_,rfl⟩⟩)|(refine⟨rfl,.inl ⟨rfl,fun i o hi ho=>?_⟩⟩;cases hi;cases ho;first|rfl)|(refine And.intro (fun dI=>(Bool.false_ne_true dI).elim) ?_<;>conv=>whnf)|(refine And.intro (fun _=>?_) ?_<;>conv=>whnf)|(refine And.intro ?_ ?_<;>conv=>whnf))),?_⟩;conv=>whnf
   subst hQ;rw[cB,if_neg (by omega)];by_cases h0:a<0
   ·rw[if_pos h0];rfl
   ·rw[if_neg h0,List.getElem?_eq_none (by omega)];rfl
  ·obtain⟨i,rfl⟩:=Int.eq_ofNat_of_zero_le (show 0≤a by omega);have hi:i<l.length:=by omega
   have hd:cB l (i:Nat)=if l[i].ts.length=0 then(0,0) else sQ l[i] l (i:Nat) (cO l i):=by
    rw[cB,if_neg (by omega),if_neg (by omega),show((i:Int)).toNat=i from rfl,List.getElem?_eq_getElem hi]
   have hts:=hs.2 _ (List.getElem_mem hi);have hml:=m6 hi;have hok:=(kr h).2 _ (List.getElem_mem hi);have Qu:=Pz k l i hs h hi;generalize cO l i=M at*;generalize l[i]=x at*;have RD:∀t,t∈x.ts→1≤t.d∧t.d≤64:=fun t ht=>by have:=qt (hok.2.2 t ht).1;omega
   have Ky:=hok.1;unfold gM at Ky;refine ai (Qu) ?_;conv=>whnf
   by_cases h0:x.ts.length=0
   ·rw[bM,h0];conv=>whnf
    refine⟨dP (by(conv=>whnf);repeat' (first|exact trivial|(exact⟨rfl,rfl,.inr ⟨_,_,rfl⟩⟩)|(refine⟨rfl,rfl,.inl ⟨rfl,fun o ho=>?_⟩⟩;cases ho;first|rfl)|(exact⟨rfl,.inr ⟨_,_,rfl⟩⟩)|(refine⟨rfl,.inl ⟨rfl,fun i o hi ho=>?_⟩⟩;cases hi;cases ho;first|rfl)|(refine And.intro (fun dI=>(Bool.false_ne_true dI).elim) ?_<;>conv=>whnf)|(refine And.intro (fun _=>?_) ?_<;>conv=>whnf)|(refine And.intro ?_ ?_<;>conv=>whnf))),?_⟩;conv=>whnf
    subst hQ;rw[hd,if_pos h0];rfl
   ·rw[if_neg h0] at hd;refine fO (by rw[bM];simpa using h0) (fun hc=>?_)
    (try rw[hc])
    conv=>whnf
    have Xj:=hok.2.1;have hhy:=HE x.k x.ts x.bV (by omega);have Qw:=fun n=>Oa x.k 2 x.ts M n (by omega) (by omega);have L9:=Pg x.ts x.bV;have z4:=uW RD x.ts.length (Nat.le_refl _);have V4:=fun(fin:Nat) (kH:fin<1048576) (F:AV) (hF:F.cl=true)=>Sx x k l (i:Nat) M fin kH hF hs hts (by omega);have O5:=fun n=>J1 x k l (i:Nat) M n;have VE:=tZ x k l (i:Nat) M;unfold sQ at hd;generalize mJ x.ts x.bV=H at*;obtain⟨hh,he⟩:=H;simp only at hd L9;refine ai (hhy) ?_;conv=>whnf
    by_cases Dw:he=0
    ·subst Dw;rw[if_neg (by simp)] at hd;have L9:=L9 rfl;conv=>whnf
     refine ai (Qw hh) ?_;generalize vw x.ts M hh=U at*;obtain⟨us,ue⟩:=U;simp only at hd;conv=>whnf
     refine⟨_,jK _ _ (by omega),?_⟩;conv=>whnf
     generalize hB:IntKind.i64.wrap (IntKind.i64.wrap (hh.tdiv x.bV)*x.cE)=B at*;by_cases hu:us>B
     ·refine fP (decide_eq_true hu) (fun hc=>?_)
      (try rw[hc])
      conv=>whnf
      subst hQ;rw[hd,if_pos hu];rfl
     ·rw[if_neg hu] at hd;refine fO (decide_eq_false hu) (fun hc=>?_)
      (try rw[hc])
      conv=>whnf
      have iL:bn (lk x k l (i:Nat) M).cells=true:=bN VE;refine iq [2] (i:=6) (v':=.fp (lk x k l (i:Nat) M).cells 0) rfl (.ptr' (by simp) rfl (.clean (l:=(lk x k l (i:Nat) M).cells) iL)) ?_;refine xe (B:=0) (d:=7) (l:=[(4,.ptr 0 0),(5,.ptr 1 0),(6,.fp (lk x k l (i:Nat) M).cells 0),(7,.int .i64 hh),(10,.int .i64 (jt x.ts 0)),(67,.fz x.k (fQ x.ts)),(68,.int .i64 (fQ x.ts).length),(69,.int .i64 ((0:Nat):Int))]) (vT (.cells [.int .i64 0] true 0) (.cells [.int .i64 0] true 0)) id (by repeat' (first|exact trivial|refine bt rfl (by omega) ?_|refine aV rfl (by omega) ?_|refine aJ rfl (by omega) ?_|refine aC rfl (by first|rfl|simp[bn,AV.cl,aE,bJ,iL]) ?_|refine aC (au (by omega)) rfl ?_)) ⟨by omega,⟨_,rfl,aX rfl rfl⟩,by omega,⟨_,rfl,aX rfl rfl⟩,trivial⟩ (by intro b c hb hc h;exact h) (by intro b hb;omega) (by omega) ?_;refine jR 0 7 x.ts.length (fun _=>True) (fun j=>[(4,.ptr 0 0),(5,.ptr 1 0),(6,.fp (lk x k l (i:Nat) M).cells 0),(7,.int .i64 hh),(10,.int .i64 (jt x.ts j)),(67,.fz x.k (fQ x.ts)),(68,.int .i64 (fQ x.ts).length),(69,.int .i64 ((j:Nat):Int))]) (fun _=>⟨2,.node (.node .nil (some (.cells [.int .i64 0] true 0)) .nil) (some (.cells [.int .i64 0] true 0)) .nil⟩) ?_ ?_ trivial
      ·intro j hj _;have hn:=yz hj;have r7:=mK (k:=x.k) hj;generalize x.ts[j]=t at*;show kX fs ms 0 false false _ (ek 7 [(4,.ptr 0 0),(5,.ptr 1 0),(6,.fp (lk x k l (i:Nat) M).cells 0),(7,.int .i64 hh),(10,.int .i64 (jt x.ts j)),(67,.fz x.k (fQ x.ts)),(68,.int .i64 (fQ x.ts).length),(69,.int .i64 ((j:Nat):Int))]) _ _;generalize jt x.ts j=f at*;conv=>whnf
       refine fP (by rw[bM];simp;omega) (fun hc=>?_)
       (try rw[hc])
       conv=>whnf
       refine⟨_,r7,?_⟩;conv=>whnf
       refine⟨trivial,id,tA (vT (.cells [.int .i64 0] true 0) (.cells [.int .i64 0] true 0)) id ⟨⟨_,rfl,.ptr (by omega)⟩,⟨_,rfl,.ptr (by omega)⟩,⟨_,rfl,.cl (by simp[AV.cl,iL])⟩,⟨_,rfl,.cl rfl⟩,⟨_,congrArg (fun n=>some (AV.int .i64 n)) hn.symm,.cl rfl⟩,⟨_,rfl,.cl (by simp[AV.cl,bJ])⟩,⟨_,rfl,.cl rfl⟩,⟨_,au (by omega),.cl rfl⟩,trivial⟩ ⟨by omega,⟨_,rfl,aX rfl rfl⟩,by omega,⟨_,rfl,aX rfl rfl⟩,trivial⟩ (by intro b c hb hc h;exact h) (by intro b hb;omega) (by omega)⟩
      ·intro _;have hE:=EJ (x:=x) L9 ⟨z4.1,z4.2.1⟩ ⟨Ky.1,Ky.2.1⟩;have hend:Be x hh=((Be x hh).toNat:Nat):=(Int.toNat_of_nonneg (by omega)).symm;have hlt:(Be x hh).toNat<1048576:=by omega
       have L8:Be x hh=jX [hh,jt x.ts x.ts.length,x.bV,x.bV]:=rfl;generalize Be x hh=en at*;generalize en.toNat=fin at*;subst hend;clear z4 RD hE;show kX fs ms 0 false false _ (ek 7 [(4,.ptr 0 0),(5,.ptr 1 0),(6,.fp (lk x k l (i:Nat) M).cells 0),(7,.int .i64 hh),(10,.int .i64 (jt x.ts x.ts.length)),(67,.fz x.k (fQ x.ts)),(68,.int .i64 (fQ x.ts).length),(69,.int .i64 ((x.ts.length:Nat):Int))]) _ _;generalize jt x.ts x.ts.length=far at*;conv=>whnf
       refine fO (by rw[bM];simp) (fun hc=>?_)
       (try rw[hc])
       conv=>whnf
       refine ja (Je 2 [hh,far,x.bV,x.bV] (by simp)) rfl (.cons (.row (s:=1) trivial rfl (by rfl) (jA _) (by simp[ints]) (Nat.le_refl _) (by omega) (fun _=>rfl) (fun _=>rfl) (aE _)) .nil) ?_;rw[←L8];conv=>whnf
       refine ai (O5 _) ?_;conv=>whnf
       refine⟨dP (by(conv=>whnf);repeat' (first|exact trivial|(exact⟨rfl,rfl,.inr ⟨_,_,rfl⟩⟩)|(refine⟨rfl,rfl,.inl ⟨rfl,fun o ho=>?_⟩⟩;cases ho;first|rfl)|(exact⟨rfl,.inr ⟨_,_,rfl⟩⟩)|(refine⟨rfl,.inl ⟨rfl,fun i o hi ho=>?_⟩⟩;cases hi;cases ho;first|rfl)|(refine And.intro (fun dI=>(Bool.false_ne_true dI).elim) ?_<;>conv=>whnf)|(refine And.intro (fun _=>?_) ?_<;>conv=>whnf)|(refine And.intro ?_ ?_<;>conv=>whnf))),?_⟩;conv=>whnf
       have hF:(AV.func (.func 116) [] [.fp [.int .i64 (fin:Nat)] 0,.fp (lk x k l (i:Nat) M).cells 0]).cl=true:=by simp[AV.cl,bn,iL]
       refine xe (B:=0) (d:=7) (l:=[(4,.ptr 0 0),(5,.ptr 1 0),(89,.func (.func 116) [] [.fp [.int .i64 (fin:Nat)] 0,.fp (lk x k l (i:Nat) M).cells 0])]) (vT (.cells [.int .i64 0] true 0) (.cells [.int .i64 0] true 0)) id (by repeat' (first|exact trivial|refine bt rfl (by omega) ?_|refine aV rfl (by omega) ?_|refine aJ rfl (by omega) ?_|refine aC rfl (by first|rfl|simp[bn,AV.cl,aE,iL]) ?_|refine aC (au (by omega)) rfl ?_)) ⟨by omega,⟨_,rfl,aX rfl rfl⟩,by omega,⟨_,rfl,aX rfl rfl⟩,trivial⟩ (by intro b c hb hc h;exact h) (by intro b hb;omega) (by omega) ?_;show VC fs ms 0 false (.rangeFunc (.t 89) [90,91] lA lB) _ _ _;refine Cv rfl rfl ?_;refine VD.mono (V4 fin hlt _ hF) fun v h2 h3=>?_;subst h3;cases mh:b9 (rQ x l (i:Nat) M) 1 fin with
       |none=>
        rw[mh] at hd;refine⟨.normal,0,rfl,by decide,by simp,?_⟩;conv=>whnf
        subst hQ;rw[hd];rfl
       |some t=>
        rw[mh] at hd;refine⟨.ret,2,rfl,by decide,by simp,?_⟩;conv=>whnf
        subst hQ;rw[hd];rfl
    ·refine fP (by simpa using Dw) (fun hc=>?_)
     (try rw[hc])
     conv=>whnf
     refine⟨dP (by(conv=>whnf);repeat' (first|exact trivial|(exact⟨rfl,rfl,.inr ⟨_,_,rfl⟩⟩)|(refine⟨rfl,rfl,.inl ⟨rfl,fun o ho=>?_⟩⟩;cases ho;first|rfl)|(exact⟨rfl,.inr ⟨_,_,rfl⟩⟩)|(refine⟨rfl,.inl ⟨rfl,fun i o hi ho=>?_⟩⟩;cases hi;cases ho;first|rfl)|(refine And.intro (fun dI=>(Bool.false_ne_true dI).elim) ?_<;>conv=>whnf)|(refine And.intro (fun _=>?_) ?_<;>conv=>whnf)|(refine And.intro ?_ ?_<;>conv=>whnf))),?_⟩;conv=>whnf
     subst hQ;rw[hd,if_pos Dw];rfl
 ·refine ai (Mr k l a hs h) ?_;conv=>whnf
  refine⟨dP (by(conv=>whnf);repeat' (first|exact trivial|(exact⟨rfl,rfl,.inr ⟨_,_,rfl⟩⟩)|(refine⟨rfl,rfl,.inl ⟨rfl,fun o ho=>?_⟩⟩;cases ho;first|rfl)|(exact⟨rfl,.inr ⟨_,_,rfl⟩⟩)|(refine⟨rfl,.inl ⟨rfl,fun i o hi ho=>?_⟩⟩;cases hi;cases ho;first|rfl)|(refine And.intro (fun dI=>(Bool.false_ne_true dI).elim) ?_<;>conv=>whnf)|(refine And.intro (fun _=>?_) ?_<;>conv=>whnf)|(refine And.intro ?_ ?_<;>conv=>whnf))),?_⟩;conv=>whnf
  subst hQ;rw[cB,if_pos h];rfl
end Ir
end Go.Proofs.Ytecdcefacdodgaa
