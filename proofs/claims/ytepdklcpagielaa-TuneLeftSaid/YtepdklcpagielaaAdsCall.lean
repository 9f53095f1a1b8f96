/-
  What big steps mean in the model: calls.
-/
import Derived.Test.YtepdklcpagielaaAdsCode
set_option linter.unusedSimpArgs false
set_option linter.unusedVariables false
namespace Go.Proofs.Ytepdklcpagielaa
namespace Ads
structure lW(P:Program)(fs:Nat→Option aB)(ms:Nat→String→Option Nat):Prop where
 yN:∀f af,fs f=some af→∃fn,P.funcs[f]?=some fn∧aq P fn=some af
 Gg:∀t name f,ms t name=some f→∀v w,(method (P.types.size+Made.depth) t v name).run P w=.ok (f,v) w
 mixed:P.follows .mixedOrders=true
section
variable {P:Program} {H0 W0:Nat} {ρ ρ':de} {D D':Dom} {h h' h1:Heap} {w w':World} {N n:Nat} {env e e':Env} {a:Act} {ro:Option Nat} {rd:Bool}
theorem ja{fn:Func}{af:aB}(h:aq P fn=some af):∃c rs,fn.body=some c∧jc P fn.results.toList=some rs∧(fn.name== "runtime.NumGoroutine")=false∧
  codeOk fn.ntmps (aK P c)=true∧af=⟨fn.ntmps,rs,aK P c⟩:=by
 unfold aq at h;split at h
 ·rename_i c rs hb hr;split at h
  ·simp at h
  ·rename_i hc;simp only[Bool.or_eq_true,Bool.not_eq_true',not_or,Bool.not_eq_true,Bool.not_eq_false] at hc;simp only[Option.some.injEq] at h;exact⟨c,rs,hb,hr,hc.1,hc.2,h.symm⟩
 ·simp at h
theorem CS{f:Nat}{fn:Func}{c:Code}(hf:P.funcs[f]?=some fn)(hb:fn.body=some c)(hn:(fn.name== "runtime.NumGoroutine")=false)(args:Array Value):
  (callFunc f args).run P w=.ok (.enter f args) w:=by
 have hn':¬fn.name= "runtime.NumGoroutine" :=by simpa using hn
 simp[callFunc,hf,hn',hb]
theorem p6:∀(l:List AV) (i:Nat) (e:Env) (t:Nat),(Env.args l i e).get t=if i≤t∧t<i+l.length then(l[t-i]?).getD .undef else e.get t
 |[],i,e,t=>by
  rw[if_neg (by simp)];rfl
 |v::vs,i,e,t=>by
  simp only[Env.args];rw[p6 vs (i+1) _ t];have hg:Env.get (Tr.set e i v) t=if t=i then v else e.get t:=by
   simp only[Env.get,Tr.bP];by_cases h:t=i
   ·simp[h]
   ·simp[h]
  by_cases h1:t=i
  ·subst h1;rw[if_neg (by omega),hg,if_pos rfl,if_pos ⟨Nat.le_refl _,by simp⟩];simp
  ·by_cases h2:i+1≤t∧t<i+1+vs.length
   ·rw[if_pos h2,if_pos ⟨by omega,by simp;omega⟩];obtain⟨k,hk⟩:∃k,t-i=k+1:=⟨t-i-1,by omega⟩;rw[hk,show t-(i+1)=k by omega];simp
   ·rw[if_neg h2,hg,if_neg h1,if_neg (by simp;omega)]
theorem DX{α:Type}:∀(d n:Nat),(Tr.full d:Tr α).get n=none
 |0,n=>rfl
 |d+1,n=>by
  simp only[Tr.full,Tr.get];cases Nat.beq n 0
  ·cases Nat.beq (n%2) 1<;>simp[DX d]
  ·rfl
theorem xl(d t:Nat):Env.get (Tr.full d:Env) t=AV.undef:=by simp[Env.get,DX]
theorem oZ{args:List AV}(hd:bE D args){N:Nat}(hle:args.length≤N):
  cg ρ D N (Env.start N args) {tmps:=(aA ρ args).toArray++Array.replicate (N-(aA ρ args).toArray.size) Go.undef,defers:=[]}:=by
 refine⟨by simp[aU];omega,fun i=>?_,fun i=>?_⟩
 ·rw[Env.start,p6,xl];by_cases h:0≤i∧i<0+args.length
  ·rw[if_pos h];have hi:i<args.length:=by omega
   have h2:(aA ρ args)[i]?=some (real ρ args[i]):=by rw[eX,List.getElem?_eq_getElem hi];rfl
   rw[Array.getD_eq_getD_getElem?];simp only;rw[Array.getElem?_append_left (by simp[aU];exact hi),List.getElem?_toArray,h2];simp[List.getElem?_eq_getElem hi]
  ·rw[if_neg h,gM,Array.getD_eq_getD_getElem?];simp only;rw[Array.getElem?_append_right (by simp[aU];omega)];rw[Array.getElem?_replicate];split<;>rfl
 ·rw[Env.start,p6,xl];split
  ·rename_i h;have hi:i<args.length:=by omega
   simp only[Nat.sub_zero,List.getElem?_eq_getElem hi,Option.getD_some];exact(aV D args).1 hd _ (List.getElem_mem hi)
  ·simp[AV.undef,AV.bq,bE]
def zD(a:Act)(r:ResultVar):Sem Value:=
 match r with
 |.tmp t=>pure (a.tmps.getD t Go.undef)
 |.cell c t=>do loadVar t (←asAddr (a.tmps.getD c Go.undef))
theorem P5(he:cg ρ D N e a)(hi:Inv P H0 ρ D h w){r:ResultVar}{rv:tF}{v:AV}{rs:List ResultVar}{MG:List tF}(hc:jc P (r::rs)=some MG)(Zf:MG.head?=some rv)(hv:zy e h rv=some v):
  (zD a r).run P w=.ok (real ρ v) w∧v.bq D:=by
 unfold zD;cases r with
 |tmp t=>
  simp only[jc,Option.map_eq_some_iff] at hc;obtain⟨rs',_,rfl⟩:=hc;simp only[List.head?_cons,Option.some.injEq] at Zf;subst Zf;simp only[zy,Option.some.injEq] at hv;subst hv;exact⟨by simp only[Sem.run_pure,he.get t],he.dom t⟩
 |cell c t=>
  simp only[jc] at hc;split at hc
  ·rename_i g k rs' hg hk xO;simp only[Option.some.injEq] at hc;subst hc;simp only[List.head?_cons,Option.some.injEq] at Zf;subst Zf;simp only[zy] at hv;split at hv
   ·rename_i b o hb;have hgt:=he.get c;have Lj:=he.dom c;rw[hb] at hgt Lj;simp only[AV.bq] at Lj;simp only[hgt,real,asAddr,Sem.run_bind,Sem.run_pure,Result.andThen,loadVar,nq hg];cases g with
    |true=>
     simp only[cond_true,Option.map_eq_some_iff] at hv;obtain⟨cs,hl,rfl⟩:=hv;have hrun:=cM (P:=P) hi Lj hl;simp only[if_true,Sem.run_bind,run_sizeOf hk,Result.andThen,hrun.1,Sem.run_pure,real,AV.bq];exact⟨trivial,hrun.2⟩
    |false=>
     simp only[cond_false] at hv;have jQ:=cell_of hi Lj hv;simp only[Bool.false_eq_true,if_false];rw[run_load,jQ.1];exact⟨rfl,jQ.2⟩
   ·simp at hv
  ·simp at hc
theorem HQ(he:cg ρ D N e a)(hi:Inv P H0 ρ D h w):∀{rs:List ResultVar} {MG:List tF} {vs:List AV},jc P rs=some MG→iu e h MG=some vs→
  (rs.mapM (zD a)).run P w=.ok (aA ρ vs) w∧bE D vs
 |[],MG,vs,hc,hv=>by
  simp[jc] at hc;subst hc;simp[iu] at hv;subst hv;simp[aA,bE]
 |r::rs,MG,vs,hc,hv=>by
  have Re:∃rv Qd,MG=rv::Qd∧jc P rs=some Qd:=by
   cases r with
   |tmp t=>
    simp only[jc,Option.map_eq_some_iff] at hc;obtain⟨rs',h1,rfl⟩:=hc;exact⟨_,_,rfl,h1⟩
   |cell c t=>
    simp only[jc] at hc;split at hc
    ·rename_i g k rs' hg hk xO;simp only[Option.some.injEq] at hc;subst hc;exact⟨_,_,rfl,xO⟩
    ·simp at hc
  obtain⟨rv,Qd,rfl,JY⟩:=Re;simp only[iu] at hv;cases h1:zy e h rv with
  |none=>simp[h1] at hv
  |some v=>
   cases h2:iu e h Qd with
   |none=>simp[h1,h2] at hv
   |some vs'=>
    simp only[h1,h2,Option.some.injEq] at hv;subst hv;have ho:=P5 he hi hc rfl h1;have ih:=HQ he hi JY h2;rw[List.mapM_cons,Sem.run_bind,ho.1];simp only[Result.andThen];rw[Sem.run_bind,ih.1];simp only[Result.andThen,Sem.run_pure,aA,bE];exact⟨trivial,ho.2,ih.2⟩
theorem m6(he:cg ρ D N e a)(hi:Inv P H0 ρ D h w){fn:Func}{MG:List tF}{vs:List AV}(hc:jc P fn.results.toList=some MG)(hv:iu e h MG=some vs):
  (results fn a.tmps).run P w=.ok (real ρ (dz vs)) w∧(dz vs).bq D:=by
 have hall:=HQ (P:=P) he hi hc hv;have hm:(fn.results.mapM (zD a)).run P w=.ok (aA ρ vs).toArray w:=by
  have:fn.results=fn.results.toList.toArray:=by simp
  rw[this,List.mapM_toArray,Sem.run_map,hall.1];rfl
 have hd:=hall.2;have hres:results fn a.tmps=(do
   let vs ←fn.results.mapM (zD a)
   pure (if h:vs.size=1 then vs[0] else .tuple vs)):=by
  unfold results
  congr 1
 constructor
 ·rw[hres,Sem.run_bind,hm];simp only[Result.andThen,Sem.run_pure]
  match vs with
  |[]=>simp[aA,dz,real]
  |[v]=>simp[aA,dz]
  |v::u::vs=>simp[aA,dz,real]
 ·match vs with
  |[]=>simp[dz,AV.bq,bE]
  |[v]=>simpa[dz,bE] using hd
  |v::u::vs=>simpa[dz,AV.bq] using hd
theorem F8(hi:Inv P H0 ρ D h w){r:Nat}(o:Obj)(hr:∀b,D b→h.get b≠none→(ρ b).cj≠r):Inv P H0 ρ D h (setRow w r o) where
 lt:=hi.lt
 top:=hi.top
 low:=by rw[setRow_size];exact hi.low
 cj:=fun b x hd hx=>cA (hi.cj b x hd hx) (fun _=>id) (fun _ _=>rfl) (by rw[ef,if_neg (hr b hd (by rw[hx];simp))])
 apart:=hi.apart
theorem vk{fn:Func}{R:Ending→World→Prop}{tmps:Array Value}{tl:List Deferred}{u:FrameMode}(hu:u≠.run):∀{rs:List Nat} {w:World},Inv P H0 ρ D h w→rs.Nodup→
  (∀r∈rs,w.heap[r]?=some (.deferred (some []))∧∀b,D b→h.get b≠none→(ρ b).cj≠r)→
  (∀w',Inv P H0 ρ D h w'→w'.heap.size=w.heap.size→(∀r,r∉rs→w'.heap[r]?=w.heap[r]?)→w'.tape=w.tape→w'.os=w.os→w'.output=w.output→LeavesInM Fence.wide n P fn tmps R tl u w')→
  LeavesInM Fence.wide n P fn tmps R (marksOf rs++tl) u w
 |[],w,hi,_,_,hk=>hk w hi rfl (fun _ _=>rfl) rfl rfl rfl
 |r::rs,w,hi,Ai,hm,hk=>by
  have h1:=hm r (List.mem_cons_self ..);have hlt:=(Array.getElem?_eq_some_iff.1 h1.1).1;simp only[List.nodup_cons] at Ai;refine⟨hu,.inl ⟨r,setRow w r (.deferred none),rfl,?_,?_⟩⟩
  ·have oN:(getObj r).run P w=.ok (.deferred (some [])) w:=by
    unfold getObj;simp only[Sem.run,h1.1]
   have hso:(setObj r (.deferred none)).run P w=.ok () (setRow w r (.deferred none)):=by
    unfold setObj;simp only[Sem.run,h1.1];rfl
   simp only[Instr.takeDeferred,Sem.run_bind,oN,Result.andThen,hso,Sem.run_pure]
  ·refine vk hu (F8 hi _ h1.2) Ai.2 ?_ ?_
   ·intro r' hr';have h2:=hm r' (List.mem_cons_of_mem _ hr');refine⟨?_,h2.2⟩;rw[ef,if_neg (fun e=>Ai.1 (by rw[←e];exact hr'))];exact h2.1
   ·intro w' g1 g2 g3 g4 g5 g6;refine hk w' g1 (by rw[g2,setRow_size]) ?_ g4 g5 g6;intro r' hr';simp only[List.mem_cons,not_or] at hr';rw[g3 r' hr'.2,ef,if_neg hr'.1]
theorem oz{fn:Func}{R:Ending→World→Prop}{tmps:Array Value}{tl:List Deferred}{u:FrameMode}(hu:u≠.run){ρ':de}{w w':World}{ds:List Deferred}
  (g1:Inv P H0 ρ' (grow D h.next h1.next) h1 w')(g2:Ext ρ D h w ρ' h1 w')(g4:kB tl w.heap.size ρ' (grow D h.next h1.next) h1 w' ds)
  (hk:∀w'',Inv P H0 ρ' (grow D h.next h1.next) h1 w''→Ext ρ D h w ρ' h1 w''→LeavesInM Fence.wide n P fn tmps R tl u w''):LeavesInM Fence.wide n P fn tmps R ds u w':=by
 obtain⟨rs',m1,m2,m3⟩:=g4;rw[m1];refine vk hu g1 m2 (fun r hr=>⟨(m3 r hr).2.1,(m3 r hr).2.2⟩) ?_;intro w'' k1 k2 k3 k4 k5 k6;refine hk w'' k1 ?_;refine⟨g2.next,g2.bS,by rw[k2];exact g2.size,?_,g2.jq,g2.old,g2.fresh,k4.trans g2.tape,k5.trans g2.os,k6.trans g2.output⟩;intro r hr hb;rw[k3 r (fun hmem=>by have:=(m3 r hmem).1;omega)];exact g2.frame r hr hb
theorem MJ{fs:Nat→Option aB}{ms:Nat→String→Option Nat}(sys:lW P fs ms){f:Nat}{args:List AV}{af:aB}{x:AX}{vs:List AV}(hf:fs f=some af)(hlen:args.length≤af.ntmps)
  (hbody:bW P H0 false af.body (Env.start af.ntmps args) h x e h1)(hx:x=.normal∨x=.ret)(hres:iu e h1 af.results=some vs):iy P H0 f args h (dz vs) h1:=by
 obtain⟨fn,hfn,FT⟩:=sys.yN f af hf;obtain⟨c,rs,hb,hr,hname,hok,rfl⟩:=ja FT;intro ρ D w n hi hd;refine callsIn_of_wp_marks hfn hb trivial ?_;have he:=oZ (ρ:=ρ) hd hlen;have hm:kB [] w.heap.size ρ D h w ([]:List Deferred):=⟨[],rfl,List.nodup_nil,fun r hr=>by simp at hr⟩;refine Code.wpIn_mono ?_ (hbody c rfl fn.ntmps hok none rfl ρ D w _ w.heap.size n [] hi he hm (Nat.le_refl _));rintro ex a' w' ⟨ρ',hex,g1,g2,g3,g4,_⟩;have jM:LeavesInM Fence.wide n P fn a'.tmps (fun e w'=>∃ρ',e=.returned (real ρ' (dz vs))∧Inv P H0 ρ' (grow D h.next h1.next) h1 w'∧Ext ρ D h w ρ' h1 w'∧(dz vs).bq (grow D h.next h1.next)) a'.defers .returning w':=by
  refine oz (by simp) g1 g2 g4 ?_;intro w'' k1 k2;have hrun:=m6 (P:=P) (fn:=fn) g3 k1 hr hres;exact⟨_,hrun.1,ρ',rfl,k1,k2,hrun.2⟩
 rcases hx with rfl|rfl
 ·have hex:ex=.normal:=hex;subst hex;exact jM
 ·have hex:ex=.ret:=hex;subst hex;exact jM
theorem JB{fs:Nat→Option aB}{ms:Nat→String→Option Nat}(sys:lW P fs ms){f:Nat}{args:List AV}{af:aB}{v:AV}(hf:fs f=some af)(hlen:args.length≤af.ntmps)
  (hbody:bW P H0 false af.body (Env.start af.ntmps args) h (.panic v) e h1):oV P H0 f args h v h1:=by
 obtain⟨fn,hfn,FT⟩:=sys.yN f af hf;obtain⟨c,rs,hb,hr,hname,hok,rfl⟩:=ja FT;intro ρ D w n hi hd;refine callsIn_of_wp_marks hfn hb trivial ?_;have he:=oZ (ρ:=ρ) hd hlen;have hm:kB [] w.heap.size ρ D h w ([]:List Deferred):=⟨[],rfl,List.nodup_nil,fun r hr=>by simp at hr⟩;refine Code.wpIn_mono ?_ (hbody c rfl fn.ntmps hok none rfl ρ D w _ w.heap.size n [] hi he hm (Nat.le_refl _));rintro ex a' w' ⟨ρ',⟨hex,Ny⟩,g1,g2,g3,g4,_⟩;subst hex;refine oz (by simp) g1 g2 g4 ?_;intro w'' k1 k2;exact⟨ρ',rfl,k1,k2,Ny⟩
theorem KD{o:Op}{rs:List bV}(h:aH P o=some (.bad,rs)):rs.length≤3:=by
 have hone:∀{q:gP} {xs:List Operand},xs.length≤3→one q xs=some (.bad,rs)→rs.length≤3:=by
  intro q xs hx hh;obtain⟨_,h2⟩:=aZ hh;have:rs.length=xs.length:=by
   clear hh hx h;induction xs generalizing rs with
   |nil=>simp[cO] at h2;subst h2;rfl
   |cons x xs ih=>
    obtain⟨r,rs',rfl,_,h3⟩:=ee h2;simp[ih h3]
  omega
 cases o<;>simp only[aH] at h
 case unOp u t x=>
  cases u<;>simp only[aH] at h<;>first
   |(obtain⟨_,_,h2⟩:=bD h;simp at h2;done)
   |(simp at h;done)
 case makeMap t r=>
  cases r with
  |none=>simp only[aH] at h;obtain⟨hq,_⟩:=aZ h;simp at hq
  |some r=>simp[aH] at h
 all_goals repeat' (first
  |(obtain⟨_,_,h2⟩:=bD h;simp at h2;done)
  |(simp only[Option.bind_eq_some_iff] at h;obtain⟨_,_,h⟩:=h)
  |(simp only[Option.map_eq_some_iff] at h;obtain⟨_,_,h⟩:=h;simp at h;done)
  |(simp at h;done)
  |(split at h)
  |(exact hone (by simp) h))
end
end Ads
end Go.Proofs.Ytepdklcpagielaa
