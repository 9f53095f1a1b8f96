/-
  What big steps mean in the model: calls.
-/
import Derived.Test.YtmnolnoeibhjgaaGreatAdsCode
set_option linter.unusedSimpArgs false
set_option linter.unusedVariables false
namespace Go.Proofs.YtmnolnoeibhjgaaGreat
namespace Ads
structure kW(P:Program)(fs:Nat→Option aj)(ms:Nat→String→Option Nat):Prop where
 zc:∀f af,fs f=some af→∃fn,P.funcs[f]?=some fn∧ai P fn=some af
 HI:∀t name f,ms t name=some f→∀v w,(method (P.types.size+Made.depth) t v name).run P w=.ok (f,v) w
 mixed:P.follows .mixedOrders=true
section
variable {P:Program} {H0 W0:Nat} {ρ ρ':cG} {D D':Dom} {h h' h1:Heap} {w w':World} {N n:Nat} {env e e':Env} {a:Act} {ro:Option Nat} {rd:Bool}
theorem gU{fn:Func}{af:aj}(h:ai P fn=some af):∃c rs,fn.body=some c∧gV P fn.results.toList=some rs∧(fn.name== "runtime.NumGoroutine")=false∧
  codeOk fn.ntmps (aE P c)=true∧af=⟨fn.ntmps,rs,aE P c⟩:=by
 unfold ai at h;split at h
 ·rename_i c rs hb hr;split at h
  ·simp at h
  ·rename_i hc;simp only[Bool.or_eq_true,Bool.not_eq_true',not_or,Bool.not_eq_true,Bool.not_eq_false] at hc;simp only[Option.some.injEq] at h;exact⟨c,rs,hb,hr,hc.1,hc.2,h.symm⟩
 ·simp at h
theorem zU{f:Nat}{fn:Func}{c:Code}(hf:P.funcs[f]?=some fn)(hb:fn.body=some c)(hn:(fn.name== "runtime.NumGoroutine")=false)(args:Array Value):
  (callFunc f args).run P w=.ok (.enter f args) w:=by
 have hn':¬fn.name= "runtime.NumGoroutine" :=by simpa using hn
 simp[callFunc,hf,hn',hb]
theorem nD:∀(l:List AV) (i:Nat) (e:Env) (t:Nat),(Env.args l i e).get t=if i≤t∧t<i+l.length then(l[t-i]?).getD .undef else e.get t
 |[],i,e,t=>by
  rw[if_neg (by simp)];rfl
 |v::vs,i,e,t=>by
  simp only[Env.args];rw[nD vs (i+1) _ t];have hg:Env.get (Tr.set e i v) t=if t=i then v else e.get t:=by
   simp only[Env.get,Tr.aT];by_cases h:t=i
   ·simp[h]
   ·simp[h]
  by_cases h1:t=i
  ·subst h1;rw[if_neg (by omega),hg,if_pos rfl,if_pos ⟨Nat.le_refl _,by simp⟩];simp
  ·by_cases h2:i+1≤t∧t<i+1+vs.length
   ·rw[if_pos h2,if_pos ⟨by omega,by simp;omega⟩];obtain⟨k,hk⟩:∃k,t-i=k+1:=⟨t-i-1,by omega⟩;rw[hk,show t-(i+1)=k by omega];simp
   ·rw[if_neg h2,hg,if_neg h1,if_neg (by simp;omega)]
theorem AM{α:Type}:∀(d n:Nat),(Tr.full d:Tr α).get n=none
 |0,n=>rfl
 |d+1,n=>by
  simp only[Tr.full,Tr.get];cases Nat.beq n 0
  ·cases Nat.beq (n%2) 1<;>simp[AM d]
  ·rfl
theorem tV(d t:Nat):Env.get (Tr.full d:Env) t=AV.undef:=by simp[Env.get,AM]
theorem mO{args:List AV}(hd:bl D args){N:Nat}(hle:args.length≤N):
  bG ρ D N (Env.start N args) {tmps:=(aq ρ args).toArray++Array.replicate (N-(aq ρ args).toArray.size) Go.undef,defers:=[]}:=by
 refine⟨by simp[aM];omega,fun i=>?_,fun i=>?_⟩
 ·rw[Env.start,nD,tV];by_cases h:0≤i∧i<0+args.length
  ·rw[if_pos h];have hi:i<args.length:=by omega
   have h2:(aq ρ args)[i]?=some (real ρ args[i]):=by rw[dX,List.getElem?_eq_getElem hi];rfl
   rw[Array.getD_eq_getD_getElem?];simp only;rw[Array.getElem?_append_left (by simp[aM];exact hi),List.getElem?_toArray,h2];simp[List.getElem?_eq_getElem hi]
  ·rw[if_neg h,fA,Array.getD_eq_getD_getElem?];simp only;rw[Array.getElem?_append_right (by simp[aM];omega)];rw[Array.getElem?_replicate];split<;>rfl
 ·rw[Env.start,nD,tV];split
  ·rename_i h;have hi:i<args.length:=by omega
   simp only[Nat.sub_zero,List.getElem?_eq_getElem hi,Option.getD_some];exact(aN D args).1 hd _ (List.getElem_mem hi)
  ·simp[AV.undef,AV.aW,bl]
def wu(a:Act)(r:ResultVar):Sem Value:=
 match r with
 |.tmp t=>pure (a.tmps.getD t Go.undef)
 |.cell c t=>do loadVar t (←asAddr (a.tmps.getD c Go.undef))
theorem Kr(he:bG ρ D N e a)(hi:Inv P H0 ρ D h w){r:ResultVar}{rv:qv}{v:AV}{rs:List ResultVar}{Il:List qv}(hc:gV P (r::rs)=some Il)(Uh:Il.head?=some rv)(hv:wq e h rv=some v):
  (wu a r).run P w=.ok (real ρ v) w∧v.aW D:=by
 unfold wu;cases r with
 |tmp t=>
  simp only[gV,Option.map_eq_some_iff] at hc;obtain⟨rs',_,rfl⟩:=hc;simp only[List.head?_cons,Option.some.injEq] at Uh;subst Uh;simp only[wq,Option.some.injEq] at hv;subst hv;exact⟨by simp only[Sem.run_pure,he.get t],he.dom t⟩
 |cell c t=>
  simp only[gV] at hc;split at hc
  ·rename_i g k rs' hg hk CF;simp only[Option.some.injEq] at hc;subst hc;simp only[List.head?_cons,Option.some.injEq] at Uh;subst Uh;simp only[wq] at hv;split at hv
   ·rename_i b o hb;have hgt:=he.get c;have GY:=he.dom c;rw[hb] at hgt GY;simp only[AV.aW] at GY;simp only[hgt,real,asAddr,Sem.run_bind,Sem.run_pure,Result.andThen,loadVar,kT hg];cases g with
    |true=>
     simp only[cond_true,Option.map_eq_some_iff] at hv;obtain⟨cs,hl,rfl⟩:=hv;have hrun:=b8 (P:=P) hi GY hl;simp only[if_true,Sem.run_bind,run_sizeOf hk,Result.andThen,hrun.1,Sem.run_pure,real,AV.aW];exact⟨trivial,hrun.2⟩
    |false=>
     simp only[cond_false] at hv;have ju:=cell_of hi GY hv;simp only[Bool.false_eq_true,if_false];rw[run_load,ju.1];exact⟨rfl,ju.2⟩
   ·simp at hv
  ·simp at hc
theorem D7(he:bG ρ D N e a)(hi:Inv P H0 ρ D h w):∀{rs:List ResultVar} {Il:List qv} {vs:List AV},gV P rs=some Il→eA e h Il=some vs→
  (rs.mapM (wu a)).run P w=.ok (aq ρ vs) w∧bl D vs
 |[],Il,vs,hc,hv=>by
  simp[gV] at hc;subst hc;simp[eA] at hv;subst hv;simp[aq,bl]
 |r::rs,Il,vs,hc,hv=>by
  have Yj:∃rv KA,Il=rv::KA∧gV P rs=some KA:=by
   cases r with
   |tmp t=>
    simp only[gV,Option.map_eq_some_iff] at hc;obtain⟨rs',h1,rfl⟩:=hc;exact⟨_,_,rfl,h1⟩
   |cell c t=>
    simp only[gV] at hc;split at hc
    ·rename_i g k rs' hg hk CF;simp only[Option.some.injEq] at hc;subst hc;exact⟨_,_,rfl,CF⟩
    ·simp at hc
  obtain⟨rv,KA,rfl,FD⟩:=Yj;simp only[eA] at hv;cases h1:wq e h rv with
  |none=>simp[h1] at hv
  |some v=>
   cases h2:eA e h KA with
   |none=>simp[h1,h2] at hv
   |some vs'=>
    simp only[h1,h2,Option.some.injEq] at hv;subst hv;have ho:=Kr he hi hc rfl h1;have ih:=D7 he hi FD h2;rw[List.mapM_cons,Sem.run_bind,ho.1];simp only[Result.andThen];rw[Sem.run_bind,ih.1];simp only[Result.andThen,Sem.run_pure,aq,bl];exact⟨trivial,ho.2,ih.2⟩
theorem kH(he:bG ρ D N e a)(hi:Inv P H0 ρ D h w){fn:Func}{Il:List qv}{vs:List AV}(hc:gV P fn.results.toList=some Il)(hv:eA e h Il=some vs):
  (results fn a.tmps).run P w=.ok (real ρ (cB vs)) w∧(cB vs).aW D:=by
 have hall:=D7 (P:=P) he hi hc hv;have hm:(fn.results.mapM (wu a)).run P w=.ok (aq ρ vs).toArray w:=by
  have:fn.results=fn.results.toList.toArray:=by simp
  rw[this,List.mapM_toArray,Sem.run_map,hall.1];rfl
 have hd:=hall.2;have hres:results fn a.tmps=(do
   let vs ←fn.results.mapM (wu a)
   pure (if h:vs.size=1 then vs[0] else .tuple vs)):=by
  unfold results
  congr 1
 constructor
 ·rw[hres,Sem.run_bind,hm];simp only[Result.andThen,Sem.run_pure]
  match vs with
  |[]=>simp[aq,cB,real]
  |[v]=>simp[aq,cB]
  |v::u::vs=>simp[aq,cB,real]
 ·match vs with
  |[]=>simp[cB,AV.aW,bl]
  |[v]=>simpa[cB,bl] using hd
  |v::u::vs=>simpa[cB,AV.aW] using hd
theorem CI(hi:Inv P H0 ρ D h w){r:Nat}(o:Obj)(hr:∀b,D b→h.get b≠none→(ρ b).bH≠r):Inv P H0 ρ D h (setRow w r o) where
 lt:=hi.lt
 top:=hi.top
 low:=by rw[setRow_size];exact hi.low
 bH:=fun b x hd hx=>bR (hi.bH b x hd hx) (fun _=>id) (fun _ _=>rfl) (by rw[dy,if_neg (hr b hd (by rw[hx];simp))])
 apart:=hi.apart
theorem su{fn:Func}{R:Ending→World→Prop}{tmps:Array Value}{tl:List Deferred}{u:FrameMode}(hu:u≠.run):∀{rs:List Nat} {w:World},Inv P H0 ρ D h w→rs.Nodup→
  (∀r∈rs,w.heap[r]?=some (.deferred (some []))∧∀b,D b→h.get b≠none→(ρ b).bH≠r)→
  (∀w',Inv P H0 ρ D h w'→w'.heap.size=w.heap.size→(∀r,r∉rs→w'.heap[r]?=w.heap[r]?)→w'.tape=w.tape→w'.os=w.os→w'.output=w.output→LeavesInM Fence.wide n P fn tmps R tl u w')→
  LeavesInM Fence.wide n P fn tmps R (marksOf rs++tl) u w
 |[],w,hi,_,_,hk=>hk w hi rfl (fun _ _=>rfl) rfl rfl rfl
 |r::rs,w,hi,B1,hm,hk=>by
  have h1:=hm r (List.mem_cons_self ..);have hlt:=(Array.getElem?_eq_some_iff.1 h1.1).1;simp only[List.nodup_cons] at B1;refine⟨hu,.inl ⟨r,setRow w r (.deferred none),rfl,?_,?_⟩⟩
  ·have AZ:(getObj r).run P w=.ok (.deferred (some [])) w:=by
    unfold getObj;simp only[Sem.run,h1.1]
   have hso:(setObj r (.deferred none)).run P w=.ok () (setRow w r (.deferred none)):=by
    unfold setObj;simp only[Sem.run,h1.1];rfl
   simp only[Instr.takeDeferred,Sem.run_bind,AZ,Result.andThen,hso,Sem.run_pure]
  ·refine su hu (CI hi _ h1.2) B1.2 ?_ ?_
   ·intro r' hr';have h2:=hm r' (List.mem_cons_of_mem _ hr');refine⟨?_,h2.2⟩;rw[dy,if_neg (fun e=>B1.1 (by rw[←e];exact hr'))];exact h2.1
   ·intro w' g1 g2 g3 g4 g5 g6;refine hk w' g1 (by rw[g2,setRow_size]) ?_ g4 g5 g6;intro r' hr';simp only[List.mem_cons,not_or] at hr';rw[g3 r' hr'.2,dy,if_neg hr'.1]
theorem l7{fn:Func}{R:Ending→World→Prop}{tmps:Array Value}{tl:List Deferred}{u:FrameMode}(hu:u≠.run){ρ':cG}{w w':World}{ds:List Deferred}
  (g1:Inv P H0 ρ' (grow D h.next h1.next) h1 w')(g2:Ext ρ D h w ρ' h1 w')(g4:jc tl w.heap.size ρ' (grow D h.next h1.next) h1 w' ds)
  (hk:∀w'',Inv P H0 ρ' (grow D h.next h1.next) h1 w''→Ext ρ D h w ρ' h1 w''→LeavesInM Fence.wide n P fn tmps R tl u w''):LeavesInM Fence.wide n P fn tmps R ds u w':=by
 obtain⟨rs',m1,m2,m3⟩:=g4;rw[m1];refine su hu g1 m2 (fun r hr=>⟨(m3 r hr).2.1,(m3 r hr).2.2⟩) ?_;intro w'' k1 k2 k3 k4 k5 k6;refine hk w'' k1 ?_;refine⟨g2.next,g2.bA,by rw[k2];exact g2.size,?_,g2.iz,g2.old,g2.fresh,k4.trans g2.tape,k5.trans g2.os,k6.trans g2.output⟩;intro r hr hb;rw[k3 r (fun hmem=>by have:=(m3 r hmem).1;omega)];exact g2.frame r hr hb
theorem Io{fs:Nat→Option aj}{ms:Nat→String→Option Nat}(sys:kW P fs ms){f:Nat}{args:List AV}{af:aj}{x:AX}{vs:List AV}(hf:fs f=some af)(hlen:args.length≤af.ntmps)
  (hbody:bD P H0 false af.body (Env.start af.ntmps args) h x e h1)(hx:x=.normal∨x=.ret)(hres:eA e h1 af.results=some vs):fR P H0 f args h (cB vs) h1:=by
 obtain⟨fn,hfn,Cz⟩:=sys.zc f af hf;obtain⟨c,rs,hb,hr,hname,hok,rfl⟩:=gU Cz;intro ρ D w n hi hd;refine callsIn_of_wp_marks hfn hb trivial ?_;have he:=mO (ρ:=ρ) hd hlen;have hm:jc [] w.heap.size ρ D h w ([]:List Deferred):=⟨[],rfl,List.nodup_nil,fun r hr=>by simp at hr⟩;refine Code.wpIn_mono ?_ (hbody c rfl fn.ntmps hok none rfl ρ D w _ w.heap.size n [] hi he hm (Nat.le_refl _));rintro ex a' w' ⟨ρ',hex,g1,g2,g3,g4,_⟩;have jf:LeavesInM Fence.wide n P fn a'.tmps (fun e w'=>∃ρ',e=.returned (real ρ' (cB vs))∧Inv P H0 ρ' (grow D h.next h1.next) h1 w'∧Ext ρ D h w ρ' h1 w'∧(cB vs).aW (grow D h.next h1.next)) a'.defers .returning w':=by
  refine l7 (by simp) g1 g2 g4 ?_;intro w'' k1 k2;have hrun:=kH (P:=P) (fn:=fn) g3 k1 hr hres;exact⟨_,hrun.1,ρ',rfl,k1,k2,hrun.2⟩
 rcases hx with rfl|rfl
 ·have hex:ex=.normal:=hex;subst hex;exact jf
 ·have hex:ex=.ret:=hex;subst hex;exact jf
theorem Fj{fs:Nat→Option aj}{ms:Nat→String→Option Nat}(sys:kW P fs ms){f:Nat}{args:List AV}{af:aj}{v:AV}(hf:fs f=some af)(hlen:args.length≤af.ntmps)
  (hbody:bD P H0 false af.body (Env.start af.ntmps args) h (.panic v) e h1):mG P H0 f args h v h1:=by
 obtain⟨fn,hfn,Cz⟩:=sys.zc f af hf;obtain⟨c,rs,hb,hr,hname,hok,rfl⟩:=gU Cz;intro ρ D w n hi hd;refine callsIn_of_wp_marks hfn hb trivial ?_;have he:=mO (ρ:=ρ) hd hlen;have hm:jc [] w.heap.size ρ D h w ([]:List Deferred):=⟨[],rfl,List.nodup_nil,fun r hr=>by simp at hr⟩;refine Code.wpIn_mono ?_ (hbody c rfl fn.ntmps hok none rfl ρ D w _ w.heap.size n [] hi he hm (Nat.le_refl _));rintro ex a' w' ⟨ρ',⟨hex,I4⟩,g1,g2,g3,g4,_⟩;subst hex;refine l7 (by simp) g1 g2 g4 ?_;intro w'' k1 k2;exact⟨ρ',rfl,k1,k2,I4⟩
theorem Ge{o:Op}{rs:List bx}(h:aD P o=some (.bad,rs)):rs.length≤3:=by
 have hone:∀{q:fG} {xs:List Operand},xs.length≤3→one q xs=some (.bad,rs)→rs.length≤3:=by
  intro q xs hx hh;obtain⟨_,h2⟩:=aS hh;have:rs.length=xs.length:=by
   clear hh hx h;induction xs generalizing rs with
   |nil=>simp[ck] at h2;subst h2;rfl
   |cons x xs ih=>
    obtain⟨r,rs',rfl,_,h3⟩:=dw h2;simp[ih h3]
  omega
 cases o<;>simp only[aD] at h
 case unOp u t x=>
  cases u<;>simp only[aD] at h<;>first
   |(obtain⟨_,_,h2⟩:=bh h;simp at h2;done)
   |(simp at h;done)
 case makeMap t r=>
  cases r with
  |none=>simp only[aD] at h;obtain⟨hq,_⟩:=aS h;simp at hq
  |some r=>simp[aD] at h
 all_goals repeat' (first
  |(obtain⟨_,_,h2⟩:=bh h;simp at h2;done)
  |(simp only[Option.bind_eq_some_iff] at h;obtain⟨_,_,h⟩:=h)
  |(simp only[Option.map_eq_some_iff] at h;obtain⟨_,_,h⟩:=h;simp at h;done)
  |(simp at h;done)
  |(split at h)
  |(exact hone (by simp) h))
end
end Ads
end Go.Proofs.YtmnolnoeibhjgaaGreat
