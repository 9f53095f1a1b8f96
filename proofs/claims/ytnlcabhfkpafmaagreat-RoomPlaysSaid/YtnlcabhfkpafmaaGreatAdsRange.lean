/-
  What big steps mean in the model: the statement 'for .. := range g', g a function.
-/
import Derived.Test.YtnlcabhfkpafmaaGreatAdsRound
set_option linter.unusedSimpArgs false
set_option linter.unusedVariables false
namespace Go.Proofs.YtnlcabhfkpafmaaGreat
namespace Ads
section
variable {P:Program} {H0 W0:Nat} {ρ ρ':cE} {D D':Dom} {h h' h1 h2:Heap} {w w':World} {N n:Nat} {env e e':Env} {a:Act} {ro:Option Nat} {rd:Bool}
theorem Gx{g:bG}{ps:List Nat}{x y:AC}{f:Nat}{first aL:List AV}{v:AV}{st:Nat}{ax:AX}(hg:e.ev g=.func (.func f) first aL)
  (hc:ga P H0 f (first++(.yield h.next::aL)) (h.new (.loop 0 none e ps x y)) v h2)(tG:∀(args:Array Value) (w:World),(callFunc f args).run P w=.ok (.enter f args) w)
  (Eb:h2.get h.next=some (.loop st (dN ax) e ps x y))(hst:st≠1)(hnp:∀v,ax≠.panic v):
  bM P H0 false (.rangeFunc g ps x y) e h ax e (h2.set h.next (.loop 3 (dN ax) e ps x y)):=by
 refine cH fun code hs gy N hN ro hro ρ D w a W0 n tl hi he hm hW=>?_;obtain⟨gq,qs,cx,cy,rfl,Wt,Zl,hx,hy⟩:=oM hs gy;have zJ:ro=none:=by cases ro<;>simp_all
 subst zJ;simp only[codeOk,Bool.and_eq_true] at hN;refine wpIn_rangeFunc ?_;intro fn _
 let wd:=w.alloc (.deferred (some []))
 have hwd:wd.heap.size=w.heap.size+1:=by show(w.heap.push _).size=_;simp
 let lp:Loop:={state:=.ready,pending:=none,fn:=fn,tmps:=a.tmps,params:=qs,assign:=cx,body:=cy,defers:=w.heap.size}
 have v5:=Bw hi (.deferred (some []));have Ib:∀b,D b→iw ρ h.next ⟨wd.heap.size,0,0⟩ b=ρ b:=fun b hb=>jP _ _ (by have:=hi.lt b hb;omega);have uj:bI (iw ρ h.next ⟨wd.heap.size,0,0⟩) (grow D h.next (h.next+1)) N e a:=he.mono Ib (fun _=>.inl);have hnew:=pG (w:=wd) (w':=wd.alloc (.loop lp)) v5.1 (.loop 0 none e ps x y) 0 (.loop lp) rfl rfl rfl rfl
  ⟨v5.1.low,lp,jH wd _,rfl,rfl,uj.get,uj.dom,Zl,hx,hy,by rw[show lp.tmps.size=N from he.size];exact hN.1.2,by rw[show lp.tmps.size=N from he.size];exact hN.2,by rw[show lp.tmps.size=N from he.size];exact hN.1.1⟩
 have Bg:Ext ρ D h w (iw ρ h.next ⟨wd.heap.size,0,0⟩) (h.new (.loop 0 none e ps x y)) (wd.alloc (.loop lp)):=Ext.trans hi.lt v5.2 (by rw[bn];exact hnew.2);have Bk:=aF he Wt;rw[hg] at Bk;have vY:=aF uj Wt;rw[hg] at vY;simp only[AV.aX] at vY;refine⟨wd.heap.size,[{target:=.collected w.heap.size,args:=#[]}],wd.alloc (.loop lp),{target:=.fn (.func f) (aq (iw ρ h.next ⟨wd.heap.size,0,0⟩) aL).toArray,args:=(aq (iw ρ h.next ⟨wd.heap.size,0,0⟩) first).toArray++#[.func (.yield wd.heap.size) #[] #[]]},wd.alloc (.loop lp),f,
  (aq (iw ρ h.next ⟨wd.heap.size,0,0⟩) (first++(.yield h.next::aL))).toArray,wd.alloc (.loop lp),?_,?_,fun _ _=>trivial,?_,fun hh=>by simp[FW,Fence.wide] at hh,?_⟩
 ·show(Instr.enterLoop fn a.tmps qs cx cy none).run P w=_;simp only[Instr.enterLoop,Sem.run_bind,run_newObj_alloc,Result.andThen,Sem.run_pure];rfl
 ·simp only[resolve];rw[show a.eval gq=real (iw ρ h.next ⟨wd.heap.size,0,0⟩) (.func (.func f) first aL) from vY.1];simp[Deferred.ofValue,real,Act.eval]
 ·simp only[invoke,tG]
  congr 2
  have:real (iw ρ h.next ⟨wd.heap.size,0,0⟩) (.yield h.next)=.func (.yield wd.heap.size) #[] #[]:=by simp[real,bO]
  simp[ir,aq,this]
 ·have hda:bl (grow D h.next (h.next+1)) (first++(.yield h.next::aL)):=by
   rw[aR];intro z hz;rcases List.mem_append.1 hz with hz|hz
   ·exact(aR _ _).1 vY.2.2.1 z hz
   ·rcases List.mem_cons.1 hz with hz|hz
    ·rw[hz];simp only[AV.aX];exact .inr ⟨Nat.le_refl _,by omega⟩
    ·exact(aR _ _).1 vY.2.2.2 z hz
  refine CallsIn.mono (hc (iw ρ h.next ⟨wd.heap.size,0,0⟩) (grow D h.next (h.next+1)) (wd.alloc (.loop lp)) (n-1) hnew.1 hda) ?_;rintro en w3 ⟨iU,rfl,i2,x2,_⟩;have KI:grow D h.next (h.next+1) h.next:=.inr ⟨Nat.le_refl _,by omega⟩;have jQ:(h.new (.loop 0 none e ps x y)).next=h.next+1:=rfl
  rw[jQ] at i2;have TE:grow (grow D h.next (h.next+1)) (h.next+1) h2.next h.next:=.inl KI;have YG:iU h.next=⟨wd.heap.size,0,0⟩:=by rw[x2.bA h.next KI,bO]
  obtain⟨_,r2,xD,Ui,IG,Rl,QM,Ra,QE,QH,IA,IC,Ih⟩:=i2.bJ h.next _ TE Eb;have iS:=sF i2 TE Eb xD (st':=3) (wG:=dN ax) (r':={r2 with state:=.exhausted}) ⟨rfl,IG,Rl,QM,Ra,QE,QH,IA,IC,Ih⟩;have zE:(iU h.next).bJ=wd.heap.size:=by rw[YG]
  have Rf:(r2.state==.busy)=false:=by
   rw[Ui]
   match st,hst with
   |0,_=>rfl
   |1,h=>exact absurd rfl h
   |2,_=>rfl
   |k+3,_=>rfl
  have hend:(Instr.endLoop wd.heap.size).run P w3=.ok r2.pending (setRow w3 (iU h.next).bJ (.loop {r2 with state:=.exhausted})):=by
   rw[←zE];simp only[Instr.endLoop,Sem.run_bind,run_getLoop xD,Result.andThen,Rf,Bool.false_eq_true,if_false,n8 xD (fun _ _ _=>by simp),Sem.run_pure]
  have hn2:h.next+1≤h2.next:=by have:=x2.next;rw[jQ] at this;exact this
  have x2':Ext (iw ρ h.next ⟨wd.heap.size,0,0⟩) (grow D h.next (h.next+1)) (h.new (.loop 0 none e ps x y)) (wd.alloc (.loop lp)) iU (h2.set h.next (.loop 3 (dN ax) e ps x y)) (setRow w3 (iU h.next).bJ (.loop {r2 with state:=.exhausted})):=
   Ext.trans hnew.1.lt x2 (by rw[jQ];exact iS.2)
  have KB:=Ext.trans hi.lt Bg (by rw[jQ];exact x2');have Is:=dG D (show h.next≤h.next+1 by omega) hn2;have Zv:Inv P H0 iU (grow D h.next h2.next) (h2.set h.next (.loop 3 (dN ax) e ps x y)) (setRow w3 (iU h.next).bJ (.loop {r2 with state:=.exhausted})):=by
   rw[←Is];exact iS.1
  have Qr:bI iU (grow D h.next h2.next) N e {a with defers:=[{target:=.collected w.heap.size,args:=#[]}]++a.defers}:=by
   have:=he.mono (ρ':=iU) (D':=grow D h.next h2.next) (fun b hb=>KB.bA b hb) (fun _=>.inl);exact⟨this.size,this.get,this.dom⟩
  have RI:jC tl W0 iU (grow D h.next h2.next) (h2.set h.next (.loop 3 (dN ax) e ps x y)) (setRow w3 (iU h.next).bJ (.loop {r2 with state:=.exhausted})) ([{target:=.collected w.heap.size,args:=#[]}]++a.defers):=by
   have m1:jC tl W0 (iw ρ h.next ⟨wd.heap.size,0,0⟩) (grow D h.next (h.next+1)) (h.new (.loop 0 none e ps x y)) (wd.alloc (.loop lp)) ([{target:=.collected w.heap.size,args:=#[]}]++a.defers):=by
    obtain⟨rs,q1,q2,q3⟩:=hm.ext hi.lt Bg;rw[jQ] at q3;refine⟨w.heap.size::rs,by rw[q1];rfl,?_,?_⟩
    ·refine List.nodup_cons.2 ⟨?_,q2⟩;intro hmem;obtain⟨rs',ZH,q2',ZI⟩:=hm;have:rs=rs':=by
      have he:=q1.symm.trans ZH;have he:=List.append_cancel_right he;have hinj:=congrArg (List.map (fun d:Deferred=>match d.target with|.collected r=>r|_=>0)) he;simpa[marksOf,Function.comp_def] using hinj
     rw[this] at hmem;have:=(Array.getElem?_eq_some_iff.1 (ZI _ hmem).2.1).1;omega
    ·intro r hr;rcases List.mem_cons.1 hr with rfl|hr
     ·refine⟨hW,?_,?_⟩
      ·show((w.heap.push _).push _)[w.heap.size]?=_;rw[Array.getElem?_push,if_neg (by simp),Array.getElem?_push,if_pos rfl]
      ·rintro b (hb|⟨q7,kM⟩) hn
       ·rw[Ib b hb];rw[Heap.bW,if_neg (by have:=hi.lt b hb;omega)] at hn;have:=hi.NJ hb hn;omega
       ·have:b=h.next:=by omega
        subst this;rw[bO];simp only;omega
     ·exact q3 r hr
   have:=m1.ext hnew.1.lt x2';rw[jQ] at this;rw[←Is];exact this
  refine⟨r2.pending,_,hend,?_⟩;have post:∀ex,G6 iU (grow D h.next h2.next) ax ex→oh P H0 (bC (.rangeFunc g ps x y)) a.defers tl W0 ρ D h w N ax e (h2.set h.next (.loop 3 (dN ax) e ps x y)) ex {a with defers:=[{target:=.collected w.heap.size,args:=#[]}]++a.defers} (setRow w3 (iU h.next).bJ (.loop {r2 with state:=.exhausted})):=by
   intro ex hex;exact⟨iU,hex,Zv,KB,Qr,RI,fun hn=>by simp[bC] at hn⟩
  generalize setRow w3 (iU h.next).bJ (.loop {r2 with state:=.exhausted})=w4 at post⊢;cases ax with
  |normal=>
   have:r2.pending=none:=IG;rw[this];exact post _ rfl
  |exit id=>
   have:r2.pending=some (.exit id):=IG;rw[this];exact wpIn_exit (post _ rfl)
  |ret=>
   have:r2.pending=some .ret:=IG;rw[this];exact wpIn_ret (post _ rfl)
  |panic v=>exact absurd rfl (hnp v)
end
end Ads
end Go.Proofs.YtnlcabhfkpafmaaGreat
