/-
  What big steps mean in the model: the statement 'for .. := range g', g a function.
-/
import Derived.Test.YtecdcefacdodgaaAdsRound
set_option linter.unusedSimpArgs false
set_option linter.unusedVariables false
namespace Go.Proofs.Ytecdcefacdodgaa
namespace Ads
section
variable {P:Program} {H0 W0:Nat} {ρ ρ':cn} {D D':Dom} {h h' h1 h2:Heap} {w w':World} {N n:Nat} {env e e':Env} {a:Act} {ro:Option Nat} {rd:Bool}
theorem Gy{g:bA}{ps:List Nat}{x y:AC}{f:Nat}{first aF:List AV}{v:AV}{st:Nat}{ax:AX}(hg:e.ev g=.func (.func f) first aF)
  (hc:fF P H0 f (first++(.yield h.next::aF)) (h.new (.loop 0 none e ps x y)) v h2)(tH:∀(args:Array Value) (w:World),(callFunc f args).run P w=.ok (.enter f args) w)
  (BD:h2.get h.next=some (.loop st (dn ax) e ps x y))(hst:st≠1)(hnp:∀v,ax≠.panic v):
  bu P H0 false (.rangeFunc g ps x y) e h ax e (h2.set h.next (.loop 3 (dn ax) e ps x y)):=by
 refine cr fun code hs fm N hN ro hro ρ D w a W0 n tl hi he hm hW=>?_;obtain⟨gq,qs,cx,cy,rfl,TD,Wk,hx,hy⟩:=oG hs fm;have vV:ro=none:=by cases ro<;>simp_all
 subst vV;simp only[codeOk,Bool.and_eq_true] at hN;refine wpIn_rangeFunc ?_;intro fn _
 let wd:=w.alloc (.deferred (some []))
 have hwd:wd.heap.size=w.heap.size+1:=by show(w.heap.push _).size=_;simp
 let lp:Loop:={state:=.ready,pending:=none,fn:=fn,tmps:=a.tmps,params:=qs,assign:=cx,body:=cy,defers:=w.heap.size}
 have vU:=BU hi (.deferred (some []));have Il:∀b,D b→kW ρ h.next ⟨wd.heap.size,0,0⟩ b=ρ b:=fun b hb=>jD _ _ (by have:=hi.lt b hb;omega);have um:bz (kW ρ h.next ⟨wd.heap.size,0,0⟩) (grow D h.next (h.next+1)) N e a:=he.mono Il (fun _=>.inl);have hnew:=pH (w:=wd) (w':=wd.alloc (.loop lp)) vU.1 (.loop 0 none e ps x y) 0 (.loop lp) rfl rfl rfl rfl
  ⟨vU.1.low,lp,jr wd _,rfl,rfl,um.get,um.dom,Wk,hx,hy,by rw[show lp.tmps.size=N from he.size];exact hN.1.2,by rw[show lp.tmps.size=N from he.size];exact hN.2,by rw[show lp.tmps.size=N from he.size];exact hN.1.1⟩
 have BC:Ext ρ D h w (kW ρ h.next ⟨wd.heap.size,0,0⟩) (h.new (.loop 0 none e ps x y)) (wd.alloc (.loop lp)):=Ext.trans hi.lt vU.2 (by rw[aY];exact hnew.2);have F7:=aD he TD;rw[hg] at F7;have vR:=aD um TD;rw[hg] at vR;simp only[AV.aP] at vR;refine⟨wd.heap.size,[{target:=.collected w.heap.size,args:=#[]}],wd.alloc (.loop lp),{target:=.fn (.func f) (aa (kW ρ h.next ⟨wd.heap.size,0,0⟩) aF).toArray,args:=(aa (kW ρ h.next ⟨wd.heap.size,0,0⟩) first).toArray++#[.func (.yield wd.heap.size) #[] #[]]},wd.alloc (.loop lp),f,
  (aa (kW ρ h.next ⟨wd.heap.size,0,0⟩) (first++(.yield h.next::aF))).toArray,wd.alloc (.loop lp),?_,?_,fun _ _=>trivial,?_,fun hh=>by simp[FW,Fence.wide] at hh,?_⟩
 ·show(Instr.enterLoop fn a.tmps qs cx cy none).run P w=_;simp only[Instr.enterLoop,Sem.run_bind,run_newObj_alloc,Result.andThen,Sem.run_pure];rfl
 ·simp only[resolve];rw[show a.eval gq=real (kW ρ h.next ⟨wd.heap.size,0,0⟩) (.func (.func f) first aF) from vR.1];simp[Deferred.ofValue,real,Act.eval]
 ·simp only[invoke,tH]
  congr 2
  have:real (kW ρ h.next ⟨wd.heap.size,0,0⟩) (.yield h.next)=.func (.yield wd.heap.size) #[] #[]:=by simp[real,bE]
  simp[gF,aa,this]
 ·have hda:aW (grow D h.next (h.next+1)) (first++(.yield h.next::aF)):=by
   rw[aL];intro z hz;rcases List.mem_append.1 hz with hz|hz
   ·exact(aL _ _).1 vR.2.2.1 z hz
   ·rcases List.mem_cons.1 hz with hz|hz
    ·rw[hz];simp only[AV.aP];exact .inr ⟨Nat.le_refl _,by omega⟩
    ·exact(aL _ _).1 vR.2.2.2 z hz
  refine CallsIn.mono (hc (kW ρ h.next ⟨wd.heap.size,0,0⟩) (grow D h.next (h.next+1)) (wd.alloc (.loop lp)) (n-1) hnew.1 hda) ?_;rintro en w3 ⟨ir,rfl,i2,x2,_⟩;have GU:grow D h.next (h.next+1) h.next:=.inr ⟨Nat.le_refl _,by omega⟩;have di:(h.new (.loop 0 none e ps x y)).next=h.next+1:=rfl
  rw[di] at i2;have Ox:grow (grow D h.next (h.next+1)) (h.next+1) h2.next h.next:=.inl GU;have Vp:ir h.next=⟨wd.heap.size,0,0⟩:=by rw[x2.bp h.next GU,bE]
  obtain⟨_,r2,CK,Se,IM,Pd,OO,O2,OE,OH,IE,IG,Ip⟩:=i2.bB h.next _ Ox BD;have ie:=sj i2 Ox BD CK (st':=3) (ku:=dn ax) (r':={r2 with state:=.exhausted}) ⟨rfl,IM,Pd,OO,O2,OE,OH,IE,IG,Ip⟩;have zY:(ir h.next).bB=wd.heap.size:=by rw[Vp]
  have O7:(r2.state==.busy)=false:=by
   rw[Se]
   match st,hst with
   |0,_=>rfl
   |1,h=>exact absurd rfl h
   |2,_=>rfl
   |k+3,_=>rfl
  have hend:(Instr.endLoop wd.heap.size).run P w3=.ok r2.pending (setRow w3 (ir h.next).bB (.loop {r2 with state:=.exhausted})):=by
   rw[←zY];simp only[Instr.endLoop,Sem.run_bind,run_getLoop CK,Result.andThen,O7,Bool.false_eq_true,if_false,nT CK (fun _ _ _=>by simp),Sem.run_pure]
  have hn2:h.next+1≤h2.next:=by have:=x2.next;rw[di] at this;exact this
  have XE:Ext (kW ρ h.next ⟨wd.heap.size,0,0⟩) (grow D h.next (h.next+1)) (h.new (.loop 0 none e ps x y)) (wd.alloc (.loop lp)) ir (h2.set h.next (.loop 3 (dn ax) e ps x y)) (setRow w3 (ir h.next).bB (.loop {r2 with state:=.exhausted})):=
   Ext.trans hnew.1.lt x2 (by rw[di];exact ie.2)
  have Ks:=Ext.trans hi.lt BC (by rw[di];exact XE);have Nv:=dh D (show h.next≤h.next+1 by omega) hn2;have Wv:Inv P H0 ir (grow D h.next h2.next) (h2.set h.next (.loop 3 (dn ax) e ps x y)) (setRow w3 (ir h.next).bB (.loop {r2 with state:=.exhausted})):=by
   rw[←Nv];exact ie.1
  have Oe:bz ir (grow D h.next h2.next) N e {a with defers:=[{target:=.collected w.heap.size,args:=#[]}]++a.defers}:=by
   have:=he.mono (ρ':=ir) (D':=grow D h.next h2.next) (fun b hb=>Ks.bp b hb) (fun _=>.inl);exact⟨this.size,this.get,this.dom⟩
  have PG:iG tl W0 ir (grow D h.next h2.next) (h2.set h.next (.loop 3 (dn ax) e ps x y)) (setRow w3 (ir h.next).bB (.loop {r2 with state:=.exhausted})) ([{target:=.collected w.heap.size,args:=#[]}]++a.defers):=by
   have m1:iG tl W0 (kW ρ h.next ⟨wd.heap.size,0,0⟩) (grow D h.next (h.next+1)) (h.new (.loop 0 none e ps x y)) (wd.alloc (.loop lp)) ([{target:=.collected w.heap.size,args:=#[]}]++a.defers):=by
    obtain⟨rs,q1,q2,q3⟩:=hm.ext hi.lt BC;rw[di] at q3;refine⟨w.heap.size::rs,by rw[q1];rfl,?_,?_⟩
    ·refine List.nodup_cons.2 ⟨?_,q2⟩;intro hmem;obtain⟨rs',WJ,q2',WK⟩:=hm;have:rs=rs':=by
      have he:=q1.symm.trans WJ;have he:=List.append_cancel_right he;have hinj:=congrArg (List.map (fun d:Deferred=>match d.target with|.collected r=>r|_=>0)) he;simpa[marksOf,Function.comp_def] using hinj
     rw[this] at hmem;have:=(Array.getElem?_eq_some_iff.1 (WK _ hmem).2.1).1;omega
    ·intro r hr;rcases List.mem_cons.1 hr with rfl|hr
     ·refine⟨hW,?_,?_⟩
      ·show((w.heap.push _).push _)[w.heap.size]?=_;rw[Array.getElem?_push,if_neg (by simp),Array.getElem?_push,if_pos rfl]
      ·rintro b (hb|⟨r6,jf⟩) hn
       ·rw[Il b hb];rw[Heap.bK,if_neg (by have:=hi.lt b hb;omega)] at hn;have:=hi.Mu hb hn;omega
       ·have:b=h.next:=by omega
        subst this;rw[bE];simp only;omega
     ·exact q3 r hr
   have:=m1.ext hnew.1.lt XE;rw[di] at this;rw[←Nv];exact this
  refine⟨r2.pending,_,hend,?_⟩;have post:∀ex,He ir (grow D h.next h2.next) ax ex→l8 P H0 (aR (.rangeFunc g ps x y)) a.defers tl W0 ρ D h w N ax e (h2.set h.next (.loop 3 (dn ax) e ps x y)) ex {a with defers:=[{target:=.collected w.heap.size,args:=#[]}]++a.defers} (setRow w3 (ir h.next).bB (.loop {r2 with state:=.exhausted})):=by
   intro ex hex;exact⟨ir,hex,Wv,Ks,Oe,PG,fun hn=>by simp[aR] at hn⟩
  generalize setRow w3 (ir h.next).bB (.loop {r2 with state:=.exhausted})=w4 at post⊢;cases ax with
  |normal=>
   have:r2.pending=none:=IM;rw[this];exact post _ rfl
  |exit id=>
   have:r2.pending=some (.exit id):=IM;rw[this];exact wpIn_exit (post _ rfl)
  |ret=>
   have:r2.pending=some .ret:=IM;rw[this];exact wpIn_ret (post _ rfl)
  |panic v=>exact absurd rfl (hnp v)
end
end Ads
end Go.Proofs.Ytecdcefacdodgaa
