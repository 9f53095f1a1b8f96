/-
  What big steps mean in the model: the statement 'for .. := range g', g a function.
-/
import Derived.Test.YtnlcabhfkpafmaaGreatAdsRound
set_option linter.unusedSimpArgs false
set_option linter.unusedVariables false
namespace Go.Proofs.YtnlcabhfkpafmaaGreat
namespace Ads
section
variable {P:Program} {H0 W0:Nat} {ρ ρ':cI} {D D':Dom} {h h' h1 h2:Heap} {w w':World} {N n:Nat} {env e e':Env} {a:Act} {ro:Option Nat} {rd:Bool}
theorem Hl{g:bE}{ps:List Nat}{x y:AC}{f:Nat}{first aF:List AV}{v:AV}{st:Nat}{ax:AX}(hg:e.ev g=.func (.func f) first aF)
  (hc:gE P H0 f (first++(.yield h.next::aF)) (h.new (.loop 0 none e ps x y)) v h2)(tZ:∀(args:Array Value) (w:World),(callFunc f args).run P w=.ok (.enter f args) w)
  (By:h2.get h.next=some (.loop st (dB ax) e ps x y))(hst:st≠1)(hnp:∀v,ax≠.panic v):
  bD P H0 false (.rangeFunc g ps x y) e h ax e (h2.set h.next (.loop 3 (dB ax) e ps x y)):=by
 refine cM fun code hs gu N hN ro hro ρ D w a W0 n tl hi he hm hW=>?_;obtain⟨gq,qs,cx,cy,rfl,Xo,hqs,hx,hy⟩:=o6 hs gu;have wh:ro=none:=by cases ro<;>simp_all
 subst wh;simp only[codeOk,Bool.and_eq_true] at hN;refine wpIn_rangeFunc ?_;intro fn _
 let wd:=w.alloc (.deferred (some []))
 have hwd:wd.heap.size=w.heap.size+1:=by show(w.heap.push _).size=_;simp
 let lp:Loop:={state:=.ready,pending:=none,fn:=fn,tmps:=a.tmps,params:=qs,assign:=cx,body:=cy,defers:=w.heap.size}
 have wg:=BQ hi (.deferred (some []));have Jf:∀b,D b→iA ρ h.next ⟨wd.heap.size,0,0⟩ b=ρ b:=fun b hb=>j9 _ _ (by have:=hi.lt b hb;omega);have uE:bI (iA ρ h.next ⟨wd.heap.size,0,0⟩) (grow D h.next (h.next+1)) N e a:=he.mono Jf (fun _=>.inl);have hnew:=p9 (w:=wd) (w':=wd.alloc (.loop lp)) wg.1 (.loop 0 none e ps x y) 0 (.loop lp) rfl rfl rfl rfl
  ⟨wg.1.low,lp,jW wd _,rfl,rfl,uE.get,uE.dom,hqs,hx,hy,by rw[show lp.tmps.size=N from he.size];exact hN.1.2,by rw[show lp.tmps.size=N from he.size];exact hN.2,by rw[show lp.tmps.size=N from he.size];exact hN.1.1⟩
 have Bx:Ext ρ D h w (iA ρ h.next ⟨wd.heap.size,0,0⟩) (h.new (.loop 0 none e ps x y)) (wd.alloc (.loop lp)):=Ext.trans hi.lt wg.2 (by rw[bn];exact hnew.2);have BC:=aD he Xo;rw[hg] at BC;have v9:=aD uE Xo;rw[hg] at v9;simp only[AV.aV] at v9;refine⟨wd.heap.size,[{target:=.collected w.heap.size,args:=#[]}],wd.alloc (.loop lp),{target:=.fn (.func f) (an (iA ρ h.next ⟨wd.heap.size,0,0⟩) aF).toArray,args:=(an (iA ρ h.next ⟨wd.heap.size,0,0⟩) first).toArray++#[.func (.yield wd.heap.size) #[] #[]]},wd.alloc (.loop lp),f,
  (an (iA ρ h.next ⟨wd.heap.size,0,0⟩) (first++(.yield h.next::aF))).toArray,wd.alloc (.loop lp),?_,?_,fun _ _=>trivial,?_,fun hh=>by simp[FW,Fence.wide] at hh,?_⟩
 ·show(Instr.enterLoop fn a.tmps qs cx cy none).run P w=_;simp only[Instr.enterLoop,Sem.run_bind,run_newObj_alloc,Result.andThen,Sem.run_pure];rfl
 ·simp only[resolve];rw[show a.eval gq=real (iA ρ h.next ⟨wd.heap.size,0,0⟩) (.func (.func f) first aF) from v9.1];simp[Deferred.ofValue,real,Act.eval]
 ·simp only[invoke,tZ]
  congr 2
  have:real (iA ρ h.next ⟨wd.heap.size,0,0⟩) (.yield h.next)=.func (.yield wd.heap.size) #[] #[]:=by simp[real,bM]
  simp[iz,an,this]
 ·have hda:bh (grow D h.next (h.next+1)) (first++(.yield h.next::aF)):=by
   rw[aP];intro z hz;rcases List.mem_append.1 hz with hz|hz
   ·exact(aP _ _).1 v9.2.2.1 z hz
   ·rcases List.mem_cons.1 hz with hz|hz
    ·rw[hz];simp only[AV.aV];exact .inr ⟨Nat.le_refl _,by omega⟩
    ·exact(aP _ _).1 v9.2.2.2 z hz
  refine CallsIn.mono (hc (iA ρ h.next ⟨wd.heap.size,0,0⟩) (grow D h.next (h.next+1)) (wd.alloc (.loop lp)) (n-1) hnew.1 hda) ?_;rintro en w3 ⟨jd,rfl,i2,x2,_⟩;have HB:grow D h.next (h.next+1) h.next:=.inr ⟨Nat.le_refl _,by omega⟩;have m0:(h.new (.loop 0 none e ps x y)).next=h.next+1:=rfl
  rw[m0] at i2;have QN:grow (grow D h.next (h.next+1)) (h.next+1) h2.next h.next:=.inl HB;have Zy:jd h.next=⟨wd.heap.size,0,0⟩:=by rw[x2.bA h.next HB,bM]
  obtain⟨_,r2,AK,U3,JC,Rx,Q2,Ro,QU,QX,Jv,Jx,Jh⟩:=i2.bJ h.next _ QN By;have iY:=sQ i2 QN By AK (st':=3) (kX:=dB ax) (r':={r2 with state:=.exhausted}) ⟨rfl,JC,Rx,Q2,Ro,QU,QX,Jv,Jx,Jh⟩;have z7:(jd h.next).bJ=wd.heap.size:=by rw[Zy]
  have Rr:(r2.state==.busy)=false:=by
   rw[U3]
   match st,hst with
   |0,_=>rfl
   |1,h=>exact absurd rfl h
   |2,_=>rfl
   |k+3,_=>rfl
  have hend:(Instr.endLoop wd.heap.size).run P w3=.ok r2.pending (setRow w3 (jd h.next).bJ (.loop {r2 with state:=.exhausted})):=by
   rw[←z7];simp only[Instr.endLoop,Sem.run_bind,run_getLoop AK,Result.andThen,Rr,Bool.false_eq_true,if_false,oF AK (fun _ _ _=>by simp),Sem.run_pure]
  have hn2:h.next+1≤h2.next:=by have:=x2.next;rw[m0] at this;exact this
  have x2':Ext (iA ρ h.next ⟨wd.heap.size,0,0⟩) (grow D h.next (h.next+1)) (h.new (.loop 0 none e ps x y)) (wd.alloc (.loop lp)) jd (h2.set h.next (.loop 3 (dB ax) e ps x y)) (setRow w3 (jd h.next).bJ (.loop {r2 with state:=.exhausted})):=
   Ext.trans hnew.1.lt x2 (by rw[m0];exact iY.2)
  have Lj:=Ext.trans hi.lt Bx (by rw[m0];exact x2');have Jn:=dN D (show h.next≤h.next+1 by omega) hn2;have aaw:Inv P H0 jd (grow D h.next h2.next) (h2.set h.next (.loop 3 (dB ax) e ps x y)) (setRow w3 (jd h.next).bJ (.loop {r2 with state:=.exhausted})):=by
   rw[←Jn];exact iY.1
  have Qu:bI jd (grow D h.next h2.next) N e {a with defers:=[{target:=.collected w.heap.size,args:=#[]}]++a.defers}:=by
   have:=he.mono (ρ':=jd) (D':=grow D h.next h2.next) (fun b hb=>Lj.bA b hb) (fun _=>.inl);exact⟨this.size,this.get,this.dom⟩
  have Se:jC tl W0 jd (grow D h.next h2.next) (h2.set h.next (.loop 3 (dB ax) e ps x y)) (setRow w3 (jd h.next).bJ (.loop {r2 with state:=.exhausted})) ([{target:=.collected w.heap.size,args:=#[]}]++a.defers):=by
   have m1:jC tl W0 (iA ρ h.next ⟨wd.heap.size,0,0⟩) (grow D h.next (h.next+1)) (h.new (.loop 0 none e ps x y)) (wd.alloc (.loop lp)) ([{target:=.collected w.heap.size,args:=#[]}]++a.defers):=by
    obtain⟨rs,q1,q2,q3⟩:=hm.ext hi.lt Bx;rw[m0] at q3;refine⟨w.heap.size::rs,by rw[q1];rfl,?_,?_⟩
    ·refine List.nodup_cons.2 ⟨?_,q2⟩;intro hmem;obtain⟨rs',q1',q2',q3'⟩:=hm;have:rs=rs':=by
      have he:=q1.symm.trans q1';have he:=List.append_cancel_right he;have hinj:=congrArg (List.map (fun d:Deferred=>match d.target with|.collected r=>r|_=>0)) he;simpa[marksOf,Function.comp_def] using hinj
     rw[this] at hmem;have:=(Array.getElem?_eq_some_iff.1 (q3' _ hmem).2.1).1;omega
    ·intro r hr;rcases List.mem_cons.1 hr with rfl|hr
     ·refine⟨hW,?_,?_⟩
      ·show((w.heap.push _).push _)[w.heap.size]?=_;rw[Array.getElem?_push,if_neg (by simp),Array.getElem?_push,if_pos rfl]
      ·rintro b (hb|⟨qP,iG⟩) hn
       ·rw[Jf b hb];rw[Heap.bT,if_neg (by have:=hi.lt b hb;omega)] at hn;have:=hi.N9 hb hn;omega
       ·have:b=h.next:=by omega
        subst this;rw[bM];simp only;omega
     ·exact q3 r hr
   have:=m1.ext hnew.1.lt x2';rw[m0] at this;rw[←Jn];exact this
  refine⟨r2.pending,_,hend,?_⟩;have post:∀ex,HY jd (grow D h.next h2.next) ax ex→mK P H0 (aX (.rangeFunc g ps x y)) a.defers tl W0 ρ D h w N ax e (h2.set h.next (.loop 3 (dB ax) e ps x y)) ex {a with defers:=[{target:=.collected w.heap.size,args:=#[]}]++a.defers} (setRow w3 (jd h.next).bJ (.loop {r2 with state:=.exhausted})):=by
   intro ex hex;exact⟨jd,hex,aaw,Lj,Qu,Se,fun hn=>by simp[aX] at hn⟩
  generalize setRow w3 (jd h.next).bJ (.loop {r2 with state:=.exhausted})=w4 at post⊢;cases ax with
  |normal=>
   have:r2.pending=none:=JC;rw[this];exact post _ rfl
  |exit id=>
   have:r2.pending=some (.exit id):=JC;rw[this];exact wpIn_exit (post _ rfl)
  |ret=>
   have:r2.pending=some .ret:=JC;rw[this];exact wpIn_ret (post _ rfl)
  |panic v=>exact absurd rfl (hnp v)
end
end Ads
end Go.Proofs.YtnlcabhfkpafmaaGreat
