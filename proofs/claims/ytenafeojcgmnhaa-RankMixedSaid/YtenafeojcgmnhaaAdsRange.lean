/-
  What big steps mean in the model: the statement 'for .. := range g', g a function.
-/
import Derived.Test.YtenafeojcgmnhaaAdsRound
set_option linter.unusedSimpArgs false
set_option linter.unusedVariables false
namespace Go.Proofs.Ytenafeojcgmnhaa
namespace Ads
section
variable {P:Program} {H0 W0:Nat} {ρ ρ':cD} {D D':Dom} {h h' h1 h2:Heap} {w w':World} {N n:Nat} {env e e':Env} {a:Act} {ro:Option Nat} {rd:Bool}
theorem Fh{g:bG}{ps:List Nat}{x y:AC}{f:Nat}{first aX:List AV}{v:AV}{st:Nat}{ax:AX}(hg:e.ev g=.func (.func f) first aX)
  (hc:gL P H0 f (first++(.yield h.next::aX)) (h.new (.loop 0 none e ps x y)) v h2)(tA:∀(args:Array Value) (w:World),(callFunc f args).run P w=.ok (.enter f args) w)
  (ni:h2.get h.next=some (.loop st (dH ax) e ps x y))(hst:st≠1)(hnp:∀v,ax≠.panic v):
  bF P H0 false (.rangeFunc g ps x y) e h ax e (h2.set h.next (.loop 3 (dH ax) e ps x y)):=by
 refine cG fun code hs eT N hN ro hro ρ D w a W0 n tl hi he hm hW=>?_;obtain⟨gq,qs,cx,cy,rfl,SI,Uz,hx,hy⟩:=ou hs eT;have vo:ro=none:=by cases ro<;>simp_all
 subst vo;simp only[codeOk,Bool.and_eq_true] at hN;refine wpIn_rangeFunc ?_;intro fn _
 let wd:=w.alloc (.deferred (some []))
 have hwd:wd.heap.size=w.heap.size+1:=by show(w.heap.push _).size=_;simp
 let lp:Loop:={state:=.ready,pending:=none,fn:=fn,tmps:=a.tmps,params:=qs,assign:=cx,body:=cy,defers:=w.heap.size}
 have vn:=Ba hi (.deferred (some []));have GB:∀b,D b→iH ρ h.next ⟨wd.heap.size,0,0⟩ b=ρ b:=fun b hb=>jN _ _ (by have:=hi.lt b hb;omega);have sQ:bJ (iH ρ h.next ⟨wd.heap.size,0,0⟩) (grow D h.next (h.next+1)) N e a:=he.mono GB (fun _=>.inl);have hnew:=oY (w:=wd) (w':=wd.alloc (.loop lp)) vn.1 (.loop 0 none e ps x y) 0 (.loop lp) rfl rfl rfl rfl
  ⟨vn.1.low,lp,jF wd _,rfl,rfl,sQ.get,sQ.dom,Uz,hx,hy,by rw[show lp.tmps.size=N from he.size];exact hN.1.2,by rw[show lp.tmps.size=N from he.size];exact hN.2,by rw[show lp.tmps.size=N from he.size];exact hN.1.1⟩
 have AQ:Ext ρ D h w (iH ρ h.next ⟨wd.heap.size,0,0⟩) (h.new (.loop 0 none e ps x y)) (wd.alloc (.loop lp)):=Ext.trans hi.lt vn.2 (by rw[bn];exact hnew.2);have AU:=aF he SI;rw[hg] at AU;have vk:=aF sQ SI;rw[hg] at vk;simp only[AV.aR] at vk;refine⟨wd.heap.size,[{target:=.collected w.heap.size,args:=#[]}],wd.alloc (.loop lp),{target:=.fn (.func f) (au (iH ρ h.next ⟨wd.heap.size,0,0⟩) aX).toArray,args:=(au (iH ρ h.next ⟨wd.heap.size,0,0⟩) first).toArray++#[.func (.yield wd.heap.size) #[] #[]]},wd.alloc (.loop lp),f,
  (au (iH ρ h.next ⟨wd.heap.size,0,0⟩) (first++(.yield h.next::aX))).toArray,wd.alloc (.loop lp),?_,?_,fun _ _=>trivial,?_,fun hh=>by simp[FW,Fence.wide] at hh,?_⟩
 ·show(Instr.enterLoop fn a.tmps qs cx cy none).run P w=_;simp only[Instr.enterLoop,Sem.run_bind,run_newObj_alloc,Result.andThen,Sem.run_pure];rfl
 ·simp only[resolve];rw[show a.eval gq=real (iH ρ h.next ⟨wd.heap.size,0,0⟩) (.func (.func f) first aX) from vk.1];simp[Deferred.ofValue,real,Act.eval]
 ·simp only[invoke,tA]
  congr 2
  have:real (iH ρ h.next ⟨wd.heap.size,0,0⟩) (.yield h.next)=.func (.yield wd.heap.size) #[] #[]:=by simp[real,bO]
  simp[iF,au,this]
 ·have hda:bg (grow D h.next (h.next+1)) (first++(.yield h.next::aX)):=by
   rw[aM];intro z hz;rcases List.mem_append.1 hz with hz|hz
   ·exact(aM _ _).1 vk.2.2.1 z hz
   ·rcases List.mem_cons.1 hz with hz|hz
    ·rw[hz];simp only[AV.aR];exact .inr ⟨Nat.le_refl _,by omega⟩
    ·exact(aM _ _).1 vk.2.2.2 z hz
  refine CallsIn.mono (hc (iH ρ h.next ⟨wd.heap.size,0,0⟩) (grow D h.next (h.next+1)) (wd.alloc (.loop lp)) (n-1) hnew.1 hda) ?_;rintro en w3 ⟨iY,rfl,i2,x2,_⟩;have zZ:grow D h.next (h.next+1) h.next:=.inr ⟨Nat.le_refl _,by omega⟩;have sS:(h.new (.loop 0 none e ps x y)).next=h.next+1:=rfl
  rw[sS] at i2;have yT:grow (grow D h.next (h.next+1)) (h.next+1) h2.next h.next:=.inl zZ;have TH:iY h.next=⟨wd.heap.size,0,0⟩:=by rw[x2.bx h.next zZ,bO]
  obtain⟨_,r2,xN,Qw,G1,MU,Mv,MK,Mn,Mq,GU,GW,GF⟩:=i2.bD h.next _ yT ni;have iU:=sg i2 yT ni xN (st':=3) (kE:=dH ax) (r':={r2 with state:=.exhausted}) ⟨rfl,G1,MU,Mv,MK,Mn,Mq,GU,GW,GF⟩;have yW:(iY h.next).bD=wd.heap.size:=by rw[TH]
  have MO:(r2.state==.busy)=false:=by
   rw[Qw]
   match st,hst with
   |0,_=>rfl
   |1,h=>exact absurd rfl h
   |2,_=>rfl
   |k+3,_=>rfl
  have hend:(Instr.endLoop wd.heap.size).run P w3=.ok r2.pending (setRow w3 (iY h.next).bD (.loop {r2 with state:=.exhausted})):=by
   rw[←yW];simp only[Instr.endLoop,Sem.run_bind,run_getLoop xN,Result.andThen,MO,Bool.false_eq_true,if_false,nP xN (fun _ _ _=>by simp),Sem.run_pure]
  have hn2:h.next+1≤h2.next:=by have:=x2.next;rw[sS] at this;exact this
  have Wm:Ext (iH ρ h.next ⟨wd.heap.size,0,0⟩) (grow D h.next (h.next+1)) (h.new (.loop 0 none e ps x y)) (wd.alloc (.loop lp)) iY (h2.set h.next (.loop 3 (dH ax) e ps x y)) (setRow w3 (iY h.next).bD (.loop {r2 with state:=.exhausted})):=
   Ext.trans hnew.1.lt x2 (by rw[sS];exact iU.2)
  have IF:=Ext.trans hi.lt AQ (by rw[sS];exact Wm);have K8:=dD D (show h.next≤h.next+1 by omega) hn2;have UN:Inv P H0 iY (grow D h.next h2.next) (h2.set h.next (.loop 3 (dH ax) e ps x y)) (setRow w3 (iY h.next).bD (.loop {r2 with state:=.exhausted})):=by
   rw[←K8];exact iU.1
  have LP:bJ iY (grow D h.next h2.next) N e {a with defers:=[{target:=.collected w.heap.size,args:=#[]}]++a.defers}:=by
   have:=he.mono (ρ':=iY) (D':=grow D h.next h2.next) (fun b hb=>IF.bx b hb) (fun _=>.inl);exact⟨this.size,this.get,this.dom⟩
  have Nj:jm tl W0 iY (grow D h.next h2.next) (h2.set h.next (.loop 3 (dH ax) e ps x y)) (setRow w3 (iY h.next).bD (.loop {r2 with state:=.exhausted})) ([{target:=.collected w.heap.size,args:=#[]}]++a.defers):=by
   have m1:jm tl W0 (iH ρ h.next ⟨wd.heap.size,0,0⟩) (grow D h.next (h.next+1)) (h.new (.loop 0 none e ps x y)) (wd.alloc (.loop lp)) ([{target:=.collected w.heap.size,args:=#[]}]++a.defers):=by
    obtain⟨rs,q1,q2,q3⟩:=hm.ext hi.lt AQ;rw[sS] at q3;refine⟨w.heap.size::rs,by rw[q1];rfl,?_,?_⟩
    ·refine List.nodup_cons.2 ⟨?_,q2⟩;intro hmem;obtain⟨rs',U9,q2',Va⟩:=hm;have:rs=rs':=by
      have he:=q1.symm.trans U9;have he:=List.append_cancel_right he;have hinj:=congrArg (List.map (fun d:Deferred=>match d.target with|.collected r=>r|_=>0)) he;simpa[marksOf,Function.comp_def] using hinj
     rw[this] at hmem;have:=(Array.getElem?_eq_some_iff.1 (Va _ hmem).2.1).1;omega
    ·intro r hr;rcases List.mem_cons.1 hr with rfl|hr
     ·refine⟨hW,?_,?_⟩
      ·show((w.heap.push _).push _)[w.heap.size]?=_;rw[Array.getElem?_push,if_neg (by simp),Array.getElem?_push,if_pos rfl]
      ·rintro b (hb|⟨qm,jh⟩) hn
       ·rw[GB b hb];rw[Heap.bU,if_neg (by have:=hi.lt b hb;omega)] at hn;have:=hi.J4 hb hn;omega
       ·have:b=h.next:=by omega
        subst this;rw[bO];simp only;omega
     ·exact q3 r hr
   have:=m1.ext hnew.1.lt Wm;rw[sS] at this;rw[←K8];exact this
  refine⟨r2.pending,_,hend,?_⟩;have post:∀ex,FD iY (grow D h.next h2.next) ax ex→l8 P H0 (aY (.rangeFunc g ps x y)) a.defers tl W0 ρ D h w N ax e (h2.set h.next (.loop 3 (dH ax) e ps x y)) ex {a with defers:=[{target:=.collected w.heap.size,args:=#[]}]++a.defers} (setRow w3 (iY h.next).bD (.loop {r2 with state:=.exhausted})):=by
   intro ex hex;exact⟨iY,hex,UN,IF,LP,Nj,fun hn=>by simp[aY] at hn⟩
  generalize setRow w3 (iY h.next).bD (.loop {r2 with state:=.exhausted})=w4 at post⊢;cases ax with
  |normal=>
   have:r2.pending=none:=G1;rw[this];exact post _ rfl
  |exit id=>
   have:r2.pending=some (.exit id):=G1;rw[this];exact wpIn_exit (post _ rfl)
  |ret=>
   have:r2.pending=some .ret:=G1;rw[this];exact wpIn_ret (post _ rfl)
  |panic v=>exact absurd rfl (hnp v)
end
end Ads
end Go.Proofs.Ytenafeojcgmnhaa
