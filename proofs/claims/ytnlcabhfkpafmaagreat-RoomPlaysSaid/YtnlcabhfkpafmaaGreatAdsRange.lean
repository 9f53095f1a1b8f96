/-
  What big steps mean in the model: the statement 'for .. := range g', g a function.
-/
import Derived.Test.YtnlcabhfkpafmaaGreatAdsRound
set_option linter.unusedSimpArgs false
set_option linter.unusedVariables false
namespace Go.Proofs.YtnlcabhfkpafmaaGreat
namespace Ads
section
variable {P:Program} {H0 W0:Nat} {ρ ρ':cF} {D D':Dom} {h h' h1 h2:Heap} {w w':World} {N n:Nat} {env e e':Env} {a:Act} {ro:Option Nat} {rd:Bool}
theorem Gx{g:bH}{ps:List Nat}{x y:AC}{f:Nat}{first aM:List AV}{v:AV}{st:Nat}{ax:AX}(hg:e.ev g=.func (.func f) first aM)
  (hc:ga P H0 f (first++(.yield h.next::aM)) (h.new (.loop 0 none e ps x y)) v h2)(tH:∀(args:Array Value) (w:World),(callFunc f args).run P w=.ok (.enter f args) w)
  (Eb:h2.get h.next=some (.loop st (dO ax) e ps x y))(hst:st≠1)(hnp:∀v,ax≠.panic v):
  bN P H0 false (.rangeFunc g ps x y) e h ax e (h2.set h.next (.loop 3 (dO ax) e ps x y)):=by
 refine cH fun code hs gy N hN ro hro ρ D w a W0 n tl hi he hm hW=>?_;obtain⟨gq,qs,cx,cy,rfl,Wv,Zn,hx,hy⟩:=oO hs gy;have zJ:ro=none:=by cases ro<;>simp_all
 subst zJ;simp only[codeOk,Bool.and_eq_true] at hN;refine wpIn_rangeFunc ?_;intro fn _
 let wd:=w.alloc (.deferred (some []))
 have hwd:wd.heap.size=w.heap.size+1:=by show(w.heap.push _).size=_;simp
 let lp:Loop:={state:=.ready,pending:=none,fn:=fn,tmps:=a.tmps,params:=qs,assign:=cx,body:=cy,defers:=w.heap.size}
 have v7:=Bw hi (.deferred (some []));have Ia:∀b,D b→iz ρ h.next ⟨wd.heap.size,0,0⟩ b=ρ b:=fun b hb=>jR _ _ (by have:=hi.lt b hb;omega);have uk:bJ (iz ρ h.next ⟨wd.heap.size,0,0⟩) (grow D h.next (h.next+1)) N e a:=he.mono Ia (fun _=>.inl);have hnew:=pH (w:=wd) (w':=wd.alloc (.loop lp)) v7.1 (.loop 0 none e ps x y) 0 (.loop lp) rfl rfl rfl rfl
  ⟨v7.1.low,lp,jJ wd _,rfl,rfl,uk.get,uk.dom,Zn,hx,hy,by rw[show lp.tmps.size=N from he.size];exact hN.1.2,by rw[show lp.tmps.size=N from he.size];exact hN.2,by rw[show lp.tmps.size=N from he.size];exact hN.1.1⟩
 have Bg:Ext ρ D h w (iz ρ h.next ⟨wd.heap.size,0,0⟩) (h.new (.loop 0 none e ps x y)) (wd.alloc (.loop lp)):=Ext.trans hi.lt v7.2 (by rw[bp];exact hnew.2);have Bk:=aG he Wv;rw[hg] at Bk;have vZ:=aG uk Wv;rw[hg] at vZ;simp only[AV.aY] at vZ;refine⟨wd.heap.size,[{target:=.collected w.heap.size,args:=#[]}],wd.alloc (.loop lp),{target:=.fn (.func f) (au (iz ρ h.next ⟨wd.heap.size,0,0⟩) aM).toArray,args:=(au (iz ρ h.next ⟨wd.heap.size,0,0⟩) first).toArray++#[.func (.yield wd.heap.size) #[] #[]]},wd.alloc (.loop lp),f,
  (au (iz ρ h.next ⟨wd.heap.size,0,0⟩) (first++(.yield h.next::aM))).toArray,wd.alloc (.loop lp),?_,?_,fun _ _=>trivial,?_,fun hh=>by simp[FW,Fence.wide] at hh,?_⟩
 ·show(Instr.enterLoop fn a.tmps qs cx cy none).run P w=_;simp only[Instr.enterLoop,Sem.run_bind,run_newObj_alloc,Result.andThen,Sem.run_pure];rfl
 ·simp only[resolve];rw[show a.eval gq=real (iz ρ h.next ⟨wd.heap.size,0,0⟩) (.func (.func f) first aM) from vZ.1];simp[Deferred.ofValue,real,Act.eval]
 ·simp only[invoke,tH]
  congr 2
  have:real (iz ρ h.next ⟨wd.heap.size,0,0⟩) (.yield h.next)=.func (.yield wd.heap.size) #[] #[]:=by simp[real,bP]
  simp[iw,au,this]
 ·have hda:bn (grow D h.next (h.next+1)) (first++(.yield h.next::aM)):=by
   rw[aS];intro z hz;rcases List.mem_append.1 hz with hz|hz
   ·exact(aS _ _).1 vZ.2.2.1 z hz
   ·rcases List.mem_cons.1 hz with hz|hz
    ·rw[hz];simp only[AV.aY];exact .inr ⟨Nat.le_refl _,by omega⟩
    ·exact(aS _ _).1 vZ.2.2.2 z hz
  refine CallsIn.mono (hc (iz ρ h.next ⟨wd.heap.size,0,0⟩) (grow D h.next (h.next+1)) (wd.alloc (.loop lp)) (n-1) hnew.1 hda) ?_;rintro en w3 ⟨iW,rfl,i2,x2,_⟩;have KG:grow D h.next (h.next+1) h.next:=.inr ⟨Nat.le_refl _,by omega⟩;have jS:(h.new (.loop 0 none e ps x y)).next=h.next+1:=rfl
  rw[jS] at i2;have TG:grow (grow D h.next (h.next+1)) (h.next+1) h2.next h.next:=.inl KG;have YI:iW h.next=⟨wd.heap.size,0,0⟩:=by rw[x2.bB h.next KG,bP]
  obtain⟨_,r2,xD,Uk,IF,Rk,QL,Q9,QD,QG,Iz,IB,Ig⟩:=i2.bK h.next _ TG Eb;have iU:=sG i2 TG Eb xD (st':=3) (wH:=dO ax) (r':={r2 with state:=.exhausted}) ⟨rfl,IF,Rk,QL,Q9,QD,QG,Iz,IB,Ig⟩;have zE:(iW h.next).bK=wd.heap.size:=by rw[YI]
  have Re:(r2.state==.busy)=false:=by
   rw[Uk]
   match st,hst with
   |0,_=>rfl
   |1,h=>exact absurd rfl h
   |2,_=>rfl
   |k+3,_=>rfl
  have hend:(Instr.endLoop wd.heap.size).run P w3=.ok r2.pending (setRow w3 (iW h.next).bK (.loop {r2 with state:=.exhausted})):=by
   rw[←zE];simp only[Instr.endLoop,Sem.run_bind,run_getLoop xD,Result.andThen,Re,Bool.false_eq_true,if_false,oa xD (fun _ _ _=>by simp),Sem.run_pure]
  have hn2:h.next+1≤h2.next:=by have:=x2.next;rw[jS] at this;exact this
  have x2':Ext (iz ρ h.next ⟨wd.heap.size,0,0⟩) (grow D h.next (h.next+1)) (h.new (.loop 0 none e ps x y)) (wd.alloc (.loop lp)) iW (h2.set h.next (.loop 3 (dO ax) e ps x y)) (setRow w3 (iW h.next).bK (.loop {r2 with state:=.exhausted})):=
   Ext.trans hnew.1.lt x2 (by rw[jS];exact iU.2)
  have Kz:=Ext.trans hi.lt Bg (by rw[jS];exact x2');have Iq:=dG D (show h.next≤h.next+1 by omega) hn2;have Zx:Inv P H0 iW (grow D h.next h2.next) (h2.set h.next (.loop 3 (dO ax) e ps x y)) (setRow w3 (iW h.next).bK (.loop {r2 with state:=.exhausted})):=by
   rw[←Iq];exact iU.1
  have Qq:bJ iW (grow D h.next h2.next) N e {a with defers:=[{target:=.collected w.heap.size,args:=#[]}]++a.defers}:=by
   have:=he.mono (ρ':=iW) (D':=grow D h.next h2.next) (fun b hb=>Kz.bB b hb) (fun _=>.inl);exact⟨this.size,this.get,this.dom⟩
  have RH:jE tl W0 iW (grow D h.next h2.next) (h2.set h.next (.loop 3 (dO ax) e ps x y)) (setRow w3 (iW h.next).bK (.loop {r2 with state:=.exhausted})) ([{target:=.collected w.heap.size,args:=#[]}]++a.defers):=by
   have m1:jE tl W0 (iz ρ h.next ⟨wd.heap.size,0,0⟩) (grow D h.next (h.next+1)) (h.new (.loop 0 none e ps x y)) (wd.alloc (.loop lp)) ([{target:=.collected w.heap.size,args:=#[]}]++a.defers):=by
    obtain⟨rs,q1,q2,q3⟩:=hm.ext hi.lt Bg;rw[jS] at q3;refine⟨w.heap.size::rs,by rw[q1];rfl,?_,?_⟩
    ·refine List.nodup_cons.2 ⟨?_,q2⟩;intro hmem;obtain⟨rs',ZJ,q2',ZK⟩:=hm;have:rs=rs':=by
      have he:=q1.symm.trans ZJ;have he:=List.append_cancel_right he;have hinj:=congrArg (List.map (fun d:Deferred=>match d.target with|.collected r=>r|_=>0)) he;simpa[marksOf,Function.comp_def] using hinj
     rw[this] at hmem;have:=(Array.getElem?_eq_some_iff.1 (ZK _ hmem).2.1).1;omega
    ·intro r hr;rcases List.mem_cons.1 hr with rfl|hr
     ·refine⟨hW,?_,?_⟩
      ·show((w.heap.push _).push _)[w.heap.size]?=_;rw[Array.getElem?_push,if_neg (by simp),Array.getElem?_push,if_pos rfl]
      ·rintro b (hb|⟨q8,kO⟩) hn
       ·rw[Ia b hb];rw[Heap.bX,if_neg (by have:=hi.lt b hb;omega)] at hn;have:=hi.NH hb hn;omega
       ·have:b=h.next:=by omega
        subst this;rw[bP];simp only;omega
     ·exact q3 r hr
   have:=m1.ext hnew.1.lt x2';rw[jS] at this;rw[←Iq];exact this
  refine⟨r2.pending,_,hend,?_⟩;have post:∀ex,G5 iW (grow D h.next h2.next) ax ex→oq P H0 (bD (.rangeFunc g ps x y)) a.defers tl W0 ρ D h w N ax e (h2.set h.next (.loop 3 (dO ax) e ps x y)) ex {a with defers:=[{target:=.collected w.heap.size,args:=#[]}]++a.defers} (setRow w3 (iW h.next).bK (.loop {r2 with state:=.exhausted})):=by
   intro ex hex;exact⟨iW,hex,Zx,Kz,Qq,RH,fun hn=>by simp[bD] at hn⟩
  generalize setRow w3 (iW h.next).bK (.loop {r2 with state:=.exhausted})=w4 at post⊢;cases ax with
  |normal=>
   have:r2.pending=none:=IF;rw[this];exact post _ rfl
  |exit id=>
   have:r2.pending=some (.exit id):=IF;rw[this];exact wpIn_exit (post _ rfl)
  |ret=>
   have:r2.pending=some .ret:=IF;rw[this];exact wpIn_ret (post _ rfl)
  |panic v=>exact absurd rfl (hnp v)
end
end Ads
end Go.Proofs.YtnlcabhfkpafmaaGreat
