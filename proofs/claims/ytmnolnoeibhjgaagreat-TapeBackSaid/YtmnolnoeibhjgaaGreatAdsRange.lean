/-
  What big steps mean in the model: the statement 'for .. := range g', g a function.
-/
import Derived.Test.YtmnolnoeibhjgaaGreatAdsRound
set_option linter.unusedSimpArgs false
set_option linter.unusedVariables false
namespace Go.Proofs.YtmnolnoeibhjgaaGreat
namespace Ads
section
variable {P:Program} {H0 W0:Nat} {ρ ρ':cG} {D D':Dom} {h h' h1 h2:Heap} {w w':World} {N n:Nat} {env e e':Env} {a:Act} {ro:Option Nat} {rd:Bool}
theorem Fl{g:bx}{ps:List Nat}{x y:AC}{f:Nat}{first aO:List AV}{v:AV}{st:Nat}{ax:AX}(hg:e.ev g=.func (.func f) first aO)
  (hc:fR P H0 f (first++(.yield h.next::aO)) (h.new (.loop 0 none e ps x y)) v h2)(tv:∀(args:Array Value) (w:World),(callFunc f args).run P w=.ok (.enter f args) w)
  (zj:h2.get h.next=some (.loop st (cU ax) e ps x y))(hst:st≠1)(hnp:∀v,ax≠.panic v):
  bD P H0 false (.rangeFunc g ps x y) e h ax e (h2.set h.next (.loop 3 (cU ax) e ps x y)):=by
 refine cL fun code hs eE N hN ro hro ρ D w a W0 n tl hi he hm hW=>?_;obtain⟨gq,qs,cx,cy,rfl,Ua,Yg,hx,hy⟩:=oL hs eE;have vJ:ro=none:=by cases ro<;>simp_all
 subst vJ;simp only[codeOk,Bool.and_eq_true] at hN;refine wpIn_rangeFunc ?_;intro fn _
 let wd:=w.alloc (.deferred (some []))
 have hwd:wd.heap.size=w.heap.size+1:=by show(w.heap.push _).size=_;simp
 let lp:Loop:={state:=.ready,pending:=none,fn:=fn,tmps:=a.tmps,params:=qs,assign:=cx,body:=cy,defers:=w.heap.size}
 have vH:=Be hi (.deferred (some []));have GP:∀b,D b→j5 ρ h.next ⟨wd.heap.size,0,0⟩ b=ρ b:=fun b hb=>jI _ _ (by have:=hi.lt b hb;omega);have tY:bG (j5 ρ h.next ⟨wd.heap.size,0,0⟩) (grow D h.next (h.next+1)) N e a:=he.mono GP (fun _=>.inl);have hnew:=pG (w:=wd) (w':=wd.alloc (.loop lp)) vH.1 (.loop 0 none e ps x y) 0 (.loop lp) rfl rfl rfl rfl
  ⟨vH.1.low,lp,jz wd _,rfl,rfl,tY.get,tY.dom,Yg,hx,hy,by rw[show lp.tmps.size=N from he.size];exact hN.1.2,by rw[show lp.tmps.size=N from he.size];exact hN.2,by rw[show lp.tmps.size=N from he.size];exact hN.1.1⟩
 have AT:Ext ρ D h w (j5 ρ h.next ⟨wd.heap.size,0,0⟩) (h.new (.loop 0 none e ps x y)) (wd.alloc (.loop lp)):=Ext.trans hi.lt vH.2 (by rw[bn];exact hnew.2);have EV:=aG he Ua;rw[hg] at EV;have vE:=aG tY Ua;rw[hg] at vE;simp only[AV.aW] at vE;refine⟨wd.heap.size,[{target:=.collected w.heap.size,args:=#[]}],wd.alloc (.loop lp),{target:=.fn (.func f) (aq (j5 ρ h.next ⟨wd.heap.size,0,0⟩) aO).toArray,args:=(aq (j5 ρ h.next ⟨wd.heap.size,0,0⟩) first).toArray++#[.func (.yield wd.heap.size) #[] #[]]},wd.alloc (.loop lp),f,
  (aq (j5 ρ h.next ⟨wd.heap.size,0,0⟩) (first++(.yield h.next::aO))).toArray,wd.alloc (.loop lp),?_,?_,fun _ _=>trivial,?_,fun hh=>by simp[FW,Fence.wide] at hh,?_⟩
 ·show(Instr.enterLoop fn a.tmps qs cx cy none).run P w=_;simp only[Instr.enterLoop,Sem.run_bind,run_newObj_alloc,Result.andThen,Sem.run_pure];rfl
 ·simp only[resolve];rw[show a.eval gq=real (j5 ρ h.next ⟨wd.heap.size,0,0⟩) (.func (.func f) first aO) from vE.1];simp[Deferred.ofValue,real,Act.eval]
 ·simp only[invoke,tv]
  congr 2
  have:real (j5 ρ h.next ⟨wd.heap.size,0,0⟩) (.yield h.next)=.func (.yield wd.heap.size) #[] #[]:=by simp[real,bM]
  simp[ig,aq,this]
 ·have hda:bl (grow D h.next (h.next+1)) (first++(.yield h.next::aO)):=by
   rw[aN];intro z hz;rcases List.mem_append.1 hz with hz|hz
   ·exact(aN _ _).1 vE.2.2.1 z hz
   ·rcases List.mem_cons.1 hz with hz|hz
    ·rw[hz];simp only[AV.aW];exact .inr ⟨Nat.le_refl _,by omega⟩
    ·exact(aN _ _).1 vE.2.2.2 z hz
  refine CallsIn.mono (hc (j5 ρ h.next ⟨wd.heap.size,0,0⟩) (grow D h.next (h.next+1)) (wd.alloc (.loop lp)) (n-1) hnew.1 hda) ?_;rintro en w3 ⟨iQ,rfl,i2,x2,_⟩;have FC:grow D h.next (h.next+1) h.next:=.inr ⟨Nat.le_refl _,by omega⟩;have hU:(h.new (.loop 0 none e ps x y)).next=h.next+1:=rfl
  rw[hU] at i2;have N7:grow (grow D h.next (h.next+1)) (h.next+1) h2.next h.next:=.inl FC;have Xt:iQ h.next=⟨wd.heap.size,0,0⟩:=by rw[x2.bA h.next FC,bM]
  obtain⟨_,r2,kN,R9,Hh,OS,Oo,OI,Oe,Oh,G8,He,GS⟩:=i2.bH h.next _ N7 zj;have iB:=sw i2 N7 zj kN (st':=3) (ku:=cU ax) (r':={r2 with state:=.exhausted}) ⟨rfl,Hh,OS,Oo,OI,Oe,Oh,G8,He,GS⟩;have zg:(iQ h.next).bH=wd.heap.size:=by rw[Xt]
  have OP:(r2.state==.busy)=false:=by
   rw[R9]
   match st,hst with
   |0,_=>rfl
   |1,h=>exact absurd rfl h
   |2,_=>rfl
   |k+3,_=>rfl
  have hend:(Instr.endLoop wd.heap.size).run P w3=.ok r2.pending (setRow w3 (iQ h.next).bH (.loop {r2 with state:=.exhausted})):=by
   rw[←zg];simp only[Instr.endLoop,Sem.run_bind,run_getLoop kN,Result.andThen,OP,Bool.false_eq_true,if_false,nT kN (fun _ _ _=>by simp),Sem.run_pure]
  have hn2:h.next+1≤h2.next:=by have:=x2.next;rw[hU] at this;exact this
  have ZV:Ext (j5 ρ h.next ⟨wd.heap.size,0,0⟩) (grow D h.next (h.next+1)) (h.new (.loop 0 none e ps x y)) (wd.alloc (.loop lp)) iQ (h2.set h.next (.loop 3 (cU ax) e ps x y)) (setRow w3 (iQ h.next).bH (.loop {r2 with state:=.exhausted})):=
   Ext.trans hnew.1.lt x2 (by rw[hU];exact iB.2)
  have IS:=Ext.trans hi.lt AT (by rw[hU];exact ZV);have Lh:=dH D (show h.next≤h.next+1 by omega) hn2;have Yu:Inv P H0 iQ (grow D h.next h2.next) (h2.set h.next (.loop 3 (cU ax) e ps x y)) (setRow w3 (iQ h.next).bH (.loop {r2 with state:=.exhausted})):=by
   rw[←Lh];exact iB.1
  have NK:bG iQ (grow D h.next h2.next) N e {a with defers:=[{target:=.collected w.heap.size,args:=#[]}]++a.defers}:=by
   have:=he.mono (ρ':=iQ) (D':=grow D h.next h2.next) (fun b hb=>IS.bA b hb) (fun _=>.inl);exact⟨this.size,this.get,this.dom⟩
  have O6:jc tl W0 iQ (grow D h.next h2.next) (h2.set h.next (.loop 3 (cU ax) e ps x y)) (setRow w3 (iQ h.next).bH (.loop {r2 with state:=.exhausted})) ([{target:=.collected w.heap.size,args:=#[]}]++a.defers):=by
   have m1:jc tl W0 (j5 ρ h.next ⟨wd.heap.size,0,0⟩) (grow D h.next (h.next+1)) (h.new (.loop 0 none e ps x y)) (wd.alloc (.loop lp)) ([{target:=.collected w.heap.size,args:=#[]}]++a.defers):=by
    obtain⟨rs,q1,q2,q3⟩:=hm.ext hi.lt AT;rw[hU] at q3;refine⟨w.heap.size::rs,by rw[q1];rfl,?_,?_⟩
    ·refine List.nodup_cons.2 ⟨?_,q2⟩;intro hmem;obtain⟨rs',YI,q2',YJ⟩:=hm;have:rs=rs':=by
      have he:=q1.symm.trans YI;have he:=List.append_cancel_right he;have hinj:=congrArg (List.map (fun d:Deferred=>match d.target with|.collected r=>r|_=>0)) he;simpa[marksOf,Function.comp_def] using hinj
     rw[this] at hmem;have:=(Array.getElem?_eq_some_iff.1 (YJ _ hmem).2.1).1;omega
    ·intro r hr;rcases List.mem_cons.1 hr with rfl|hr
     ·refine⟨hW,?_,?_⟩
      ·show((w.heap.push _).push _)[w.heap.size]?=_;rw[Array.getElem?_push,if_neg (by simp),Array.getElem?_push,if_pos rfl]
      ·rintro b (hb|⟨oA,gn⟩) hn
       ·rw[GP b hb];rw[Heap.bT,if_neg (by have:=hi.lt b hb;omega)] at hn;have:=hi.J3 hb hn;omega
       ·have:b=h.next:=by omega
        subst this;rw[bM];simp only;omega
     ·exact q3 r hr
   have:=m1.ext hnew.1.lt ZV;rw[hU] at this;rw[←Lh];exact this
  refine⟨r2.pending,_,hend,?_⟩;have post:∀ex,FP iQ (grow D h.next h2.next) ax ex→lX P H0 (aU (.rangeFunc g ps x y)) a.defers tl W0 ρ D h w N ax e (h2.set h.next (.loop 3 (cU ax) e ps x y)) ex {a with defers:=[{target:=.collected w.heap.size,args:=#[]}]++a.defers} (setRow w3 (iQ h.next).bH (.loop {r2 with state:=.exhausted})):=by
   intro ex hex;exact⟨iQ,hex,Yu,IS,NK,O6,fun hn=>by simp[aU] at hn⟩
  generalize setRow w3 (iQ h.next).bH (.loop {r2 with state:=.exhausted})=w4 at post⊢;cases ax with
  |normal=>
   have:r2.pending=none:=Hh;rw[this];exact post _ rfl
  |exit id=>
   have:r2.pending=some (.exit id):=Hh;rw[this];exact wpIn_exit (post _ rfl)
  |ret=>
   have:r2.pending=some .ret:=Hh;rw[this];exact wpIn_ret (post _ rfl)
  |panic v=>exact absurd rfl (hnp v)
end
end Ads
end Go.Proofs.YtmnolnoeibhjgaaGreat
