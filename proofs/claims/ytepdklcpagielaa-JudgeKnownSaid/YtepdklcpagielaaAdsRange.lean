/-
  What big steps mean in the model: the statement 'for .. := range g', g a function.
-/
import Derived.Test.YtepdklcpagielaaAdsRound
set_option linter.unusedSimpArgs false
set_option linter.unusedVariables false
namespace Go.Proofs.Ytepdklcpagielaa
namespace Ads
section
variable {P:Program} {H0 W0:Nat} {ρ ρ':de} {D D':Dom} {h h' h1 h2:Heap} {w w':World} {N n:Nat} {env e e':Env} {a:Act} {ro:Option Nat} {rd:Bool}
theorem JD{g:bV}{ps:List Nat}{x y:AC}{f:Nat}{first aN:List AV}{v:AV}{st:Nat}{ax:AX}(hg:e.ev g=.func (.func f) first aN)
  (hc:iy P H0 f (first++(.yield h.next::aN)) (h.new (.loop 0 none e ps x y)) v h2)(wu:∀(args:Array Value) (w:World),(callFunc f args).run P w=.ok (.enter f args) w)
  (Az:h2.get h.next=some (.loop st (eJ ax) e ps x y))(hst:st≠1)(hnp:∀v,ax≠.panic v):
  bW P H0 false (.rangeFunc g ps x y) e h ax e (h2.set h.next (.loop 3 (eJ ax) e ps x y)):=by
 refine dy fun code hs fh N hN ro hro ρ D w a W0 n tl hi he hm hW=>?_;obtain⟨gq,qs,cx,cy,rfl,Y4,hqs,hx,hy⟩:=q9 hs fh;have yZ:ro=none:=by cases ro<;>simp_all
 subst yZ;simp only[codeOk,Bool.and_eq_true] at hN;refine wpIn_rangeFunc ?_;intro fn _
 let wd:=w.alloc (.deferred (some []))
 have hwd:wd.heap.size=w.heap.size+1:=by show(w.heap.push _).size=_;simp
 let lp:Loop:={state:=.ready,pending:=none,fn:=fn,tmps:=a.tmps,params:=qs,assign:=cx,body:=cy,defers:=w.heap.size}
 have yY:=Eh hi (.deferred (some []));have Ld:∀b,D b→mL ρ h.next ⟨wd.heap.size,0,0⟩ b=ρ b:=fun b hb=>lJ _ _ (by have:=hi.lt b hb;omega);have vL:cg (mL ρ h.next ⟨wd.heap.size,0,0⟩) (grow D h.next (h.next+1)) N e a:=he.mono Ld (fun _=>.inl);have hnew:=sq (w:=wd) (w':=wd.alloc (.loop lp)) yY.1 (.loop 0 none e ps x y) 0 (.loop lp) rfl rfl rfl rfl
  ⟨yY.1.low,lp,kX wd _,rfl,rfl,vL.get,vL.dom,hqs,hx,hy,by rw[show lp.tmps.size=N from he.size];exact hN.1.2,by rw[show lp.tmps.size=N from he.size];exact hN.2,by rw[show lp.tmps.size=N from he.size];exact hN.1.1⟩
 have D4:Ext ρ D h w (mL ρ h.next ⟨wd.heap.size,0,0⟩) (h.new (.loop 0 none e ps x y)) (wd.alloc (.loop lp)):=Ext.trans hi.lt yY.2 (by rw[bF];exact hnew.2);have IW:=aM he Y4;rw[hg] at IW;have yU:=aM vL Y4;rw[hg] at yU;simp only[AV.bq] at yU;refine⟨wd.heap.size,[{target:=.collected w.heap.size,args:=#[]}],wd.alloc (.loop lp),{target:=.fn (.func f) (aA (mL ρ h.next ⟨wd.heap.size,0,0⟩) aN).toArray,args:=(aA (mL ρ h.next ⟨wd.heap.size,0,0⟩) first).toArray++#[.func (.yield wd.heap.size) #[] #[]]},wd.alloc (.loop lp),f,
  (aA (mL ρ h.next ⟨wd.heap.size,0,0⟩) (first++(.yield h.next::aN))).toArray,wd.alloc (.loop lp),?_,?_,fun _ _=>trivial,?_,fun hh=>by simp[FW,Fence.wide] at hh,?_⟩
 ·show(Instr.enterLoop fn a.tmps qs cx cy none).run P w=_;simp only[Instr.enterLoop,Sem.run_bind,run_newObj_alloc,Result.andThen,Sem.run_pure];rfl
 ·simp only[resolve];rw[show a.eval gq=real (mL ρ h.next ⟨wd.heap.size,0,0⟩) (.func (.func f) first aN) from yU.1];simp[Deferred.ofValue,real,Act.eval]
 ·simp only[invoke,wu]
  congr 2
  have:real (mL ρ h.next ⟨wd.heap.size,0,0⟩) (.yield h.next)=.func (.yield wd.heap.size) #[] #[]:=by simp[real,cw]
  simp[jg,aA,this]
 ·have hda:bE (grow D h.next (h.next+1)) (first++(.yield h.next::aN)):=by
   rw[aV];intro z hz;rcases List.mem_append.1 hz with hz|hz
   ·exact(aV _ _).1 yU.2.2.1 z hz
   ·rcases List.mem_cons.1 hz with hz|hz
    ·rw[hz];simp only[AV.bq];exact .inr ⟨Nat.le_refl _,by omega⟩
    ·exact(aV _ _).1 yU.2.2.2 z hz
  refine CallsIn.mono (hc (mL ρ h.next ⟨wd.heap.size,0,0⟩) (grow D h.next (h.next+1)) (wd.alloc (.loop lp)) (n-1) hnew.1 hda) ?_;rintro en w3 ⟨j4,rfl,i2,x2,_⟩;have Nr:grow D h.next (h.next+1) h.next:=.inr ⟨Nat.le_refl _,by omega⟩;have ir:(h.new (.loop 0 none e ps x y)).next=h.next+1:=rfl
  rw[ir] at i2;have Sf:grow (grow D h.next (h.next+1)) (h.next+1) h2.next h.next:=.inl Nr;have aa7:j4 h.next=⟨wd.heap.size,0,0⟩:=by rw[x2.bS h.next Nr,cw]
  obtain⟨_,r2,Aj,Wk,Ly,SQ,St,SI,Sm,Sq,Ls,Lu,Lg⟩:=i2.cj h.next _ Sf Az;have gB:=vl i2 Sf Az Aj (st':=3) (mT:=eJ ax) (r':={r2 with state:=.exhausted}) ⟨rfl,Ly,SQ,St,SI,Sm,Sq,Ls,Lu,Lg⟩;have Cu:(j4 h.next).cj=wd.heap.size:=by rw[aa7]
  have SL:(r2.state==.busy)=false:=by
   rw[Wk]
   match st,hst with
   |0,_=>rfl
   |1,h=>exact absurd rfl h
   |2,_=>rfl
   |k+3,_=>rfl
  have hend:(Instr.endLoop wd.heap.size).run P w3=.ok r2.pending (setRow w3 (j4 h.next).cj (.loop {r2 with state:=.exhausted})):=by
   rw[←Cu];simp only[Instr.endLoop,Sem.run_bind,run_getLoop Aj,Result.andThen,SL,Bool.false_eq_true,if_false,qw Aj (fun _ _ _=>by simp),Sem.run_pure]
  have hn2:h.next+1≤h2.next:=by have:=x2.next;rw[ir] at this;exact this
  have x2':Ext (mL ρ h.next ⟨wd.heap.size,0,0⟩) (grow D h.next (h.next+1)) (h.new (.loop 0 none e ps x y)) (wd.alloc (.loop lp)) j4 (h2.set h.next (.loop 3 (eJ ax) e ps x y)) (setRow w3 (j4 h.next).cj (.loop {r2 with state:=.exhausted})):=
   Ext.trans hnew.1.lt x2 (by rw[ir];exact gB.2)
  have Nn:=Ext.trans hi.lt D4 (by rw[ir];exact x2');have Q7:=eD D (show h.next≤h.next+1 by omega) hn2;have acd:Inv P H0 j4 (grow D h.next h2.next) (h2.set h.next (.loop 3 (eJ ax) e ps x y)) (setRow w3 (j4 h.next).cj (.loop {r2 with state:=.exhausted})):=by
   rw[←Q7];exact gB.1
  have RT:cg j4 (grow D h.next h2.next) N e {a with defers:=[{target:=.collected w.heap.size,args:=#[]}]++a.defers}:=by
   have:=he.mono (ρ':=j4) (D':=grow D h.next h2.next) (fun b hb=>Nn.bS b hb) (fun _=>.inl);exact⟨this.size,this.get,this.dom⟩
  have Ti:kB tl W0 j4 (grow D h.next h2.next) (h2.set h.next (.loop 3 (eJ ax) e ps x y)) (setRow w3 (j4 h.next).cj (.loop {r2 with state:=.exhausted})) ([{target:=.collected w.heap.size,args:=#[]}]++a.defers):=by
   have m1:kB tl W0 (mL ρ h.next ⟨wd.heap.size,0,0⟩) (grow D h.next (h.next+1)) (h.new (.loop 0 none e ps x y)) (wd.alloc (.loop lp)) ([{target:=.collected w.heap.size,args:=#[]}]++a.defers):=by
    obtain⟨rs,q1,q2,q3⟩:=hm.ext hi.lt D4;rw[ir] at q3;refine⟨w.heap.size::rs,by rw[q1];rfl,?_,?_⟩
    ·refine List.nodup_cons.2 ⟨?_,q2⟩;intro hmem;obtain⟨rs',q1',q2',q3'⟩:=hm;have:rs=rs':=by
      have he:=q1.symm.trans q1';have he:=List.append_cancel_right he;have hinj:=congrArg (List.map (fun d:Deferred=>match d.target with|.collected r=>r|_=>0)) he;simpa[marksOf,Function.comp_def] using hinj
     rw[this] at hmem;have:=(Array.getElem?_eq_some_iff.1 (q3' _ hmem).2.1).1;omega
    ·intro r hr;rcases List.mem_cons.1 hr with rfl|hr
     ·refine⟨hW,?_,?_⟩
      ·show((w.heap.push _).push _)[w.heap.size]?=_;rw[Array.getElem?_push,if_neg (by simp),Array.getElem?_push,if_pos rfl]
      ·rintro b (hb|⟨ox,iH⟩) hn
       ·rw[Ld b hb];rw[Heap.cB,if_neg (by have:=hi.lt b hb;omega)] at hn;have:=hi.PD hb hn;omega
       ·have:b=h.next:=by omega
        subst this;rw[cw];simp only;omega
     ·exact q3 r hr
   have:=m1.ext hnew.1.lt x2';rw[ir] at this;rw[←Q7];exact this
  refine⟨r2.pending,_,hend,?_⟩;have post:∀ex,Kc j4 (grow D h.next h2.next) ax ex→om P H0 (bp (.rangeFunc g ps x y)) a.defers tl W0 ρ D h w N ax e (h2.set h.next (.loop 3 (eJ ax) e ps x y)) ex {a with defers:=[{target:=.collected w.heap.size,args:=#[]}]++a.defers} (setRow w3 (j4 h.next).cj (.loop {r2 with state:=.exhausted})):=by
   intro ex hex;exact⟨j4,hex,acd,Nn,RT,Ti,fun hn=>by simp[bp] at hn⟩
  generalize setRow w3 (j4 h.next).cj (.loop {r2 with state:=.exhausted})=w4 at post⊢;cases ax with
  |normal=>
   have:r2.pending=none:=Ly;rw[this];exact post _ rfl
  |exit id=>
   have:r2.pending=some (.exit id):=Ly;rw[this];exact wpIn_exit (post _ rfl)
  |ret=>
   have:r2.pending=some .ret:=Ly;rw[this];exact wpIn_ret (post _ rfl)
  |panic v=>exact absurd rfl (hnp v)
end
end Ads
end Go.Proofs.Ytepdklcpagielaa
