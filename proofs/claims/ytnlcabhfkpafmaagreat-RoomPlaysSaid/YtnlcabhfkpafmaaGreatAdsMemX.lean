/-
  Operations that make memory, read it, write it.
  Operations that read memory or write it.
  Operations that write memory: store, append, copy.
  Operations that write memory, together.
-/
import Derived.Laws.BytesString
import Derived.Test.YtnlcabhfkpafmaaGreatAdsPureX
set_option linter.unusedSimpArgs false
set_option linter.unusedVariables false
namespace Go.Proofs.YtnlcabhfkpafmaaGreat
namespace Ads
section
variable {P:Program} {H0:Nat} {ρ:cF} {D:Dom} {h:Heap} {w:World} {n:Nat} {env:Env} {a:Act}
theorem aU{q op:fH}{xs:List Operand}{rs:List bH}(h:one q xs=some (op,rs)):q=op∧cm xs=some rs:=by
 obtain⟨rs',h1,h2⟩:=bl h;simp only[Prod.mk.injEq] at h2;exact⟨h2.1.symm,by rw[h2.2];exact h1⟩
theorem Ej{k:Nat}(h:k≤9223372036854775807):IntKind.i64.wrap (k:Int)=k:=IntWalk.i64_in _ (by omega)
theorem eL(z:List AV):∀k,(dU z k).length=k*z.length
 |0=>by simp[dU]
 |k+1=>by simp[dU,eL z k,Nat.succ_mul];omega
theorem lX(z:List AV):∀(k i:Nat),i<k*z.length→(dU z k)[i]?=z[i%z.length]?
 |0,i,h=>by simp at h
 |k+1,i,h=>by
  simp only[dU];by_cases hi:i<z.length
  ·rw[List.getElem?_append_left hi,Nat.mod_eq_of_lt hi]
  ·rw[List.getElem?_append_right (by omega),lX z k _ (by rw[Nat.succ_mul] at h;omega)]
   congr 1
   rw[Nat.mod_eq_sub_mod (by omega:i≥z.length)]
theorem pN(ρ:cF)(z:List AV)(k m:Nat)(hm:m=k*z.length):(Array.range m).map (fun i=>(au ρ z).toArray[i%(au ρ z).toArray.size]!)=(au ρ (dU z k)).toArray:=by
 subst hm;apply Array.ext_getElem?;intro i;rw[Array.getElem?_map,show(au ρ (dU z k)).toArray[i]?=(au ρ (dU z k))[i]? from List.getElem?_toArray,ee];by_cases hi:i<k*z.length
 ·have hz:0<z.length:=by
   rcases Nat.eq_zero_or_pos z.length with e|e
   ·rw[e] at hi;simp at hi
   ·exact e
  have hlt:i%z.length<z.length:=Nat.mod_lt _ hz;rw[lX z k i hi];have hr:(Array.range (k*z.length))[i]?=some i:=by simp[hi]
  rw[hr];simp only[Option.map_some,List.size_toArray,aP];rw[List.getElem?_eq_getElem hlt];simp only[Option.map_some,Option.some.injEq];have h2:(au ρ z)[i%z.length]?=some (real ρ z[i%z.length]):=by rw[ee,List.getElem?_eq_getElem hlt];rfl
  rw[List.getElem!_toArray,List.getElem!_eq_getElem?_getD,h2];rfl
 ·rw[List.getElem?_eq_none (by rw[eL];omega)];have hr:(Array.range (k*z.length))[i]?=none:=by simp;omega
  rw[hr];rfl
theorem jJ(w:World)(o:Obj):(w.alloc o).heap[w.heap.size]?=some o:=by
 show(w.heap.push o)[w.heap.size]?=some o;simp
theorem ME{ρ':cF}{D':Dom}{cs:List AV}(hd:bn D' cs)(t:TypeId)(ri:H0≤w.heap.size):
  eC P H0 ρ' D' ⟨w.heap.size,0,0⟩ (.cells cs true 0) (w.alloc (.cells (au ρ' cs).toArray t)):=by
 refine⟨(au ρ' cs).toArray,t,(0,0),jJ _ _,?_,fun _=>⟨ri,by simp[aP],fun i h1 h2=>by simp at h2⟩⟩;intro i v hv;refine⟨?_,(aS D' cs).1 hd v (List.mem_of_getElem? hv)⟩;simp[ee,hv]
def Made(P:Program)(H0:Nat)(ρ:cF)(D:Dom)(w:World)(s:Sem Next)(x:dD)(f:Nat→AV):Prop:=
 ∃obj:Obj,(∀(b:Nat) (ρ':cF),ρ' b=⟨w.heap.size,0,0⟩→s.run P w=.ok (.value (real ρ' (f b))) (w.alloc obj))∧
  (∀(ρ':cF) (D':Dom),(∀b,D b→D' b)→(∀b,D b→ρ' b=ρ b)→H0≤w.heap.size→eC P H0 ρ' D' ⟨w.heap.size,0,0⟩ x (w.alloc obj))∧
  (∀(b:Nat) (D':Dom),D' b→(f b).aY D')
theorem sH{s:Sem Next}{cs:List AV}{f:Nat→AV}(t:TypeId)(hd:bn D cs)
  (hs:∀(b:Nat) (ρ':cF),ρ' b=⟨w.heap.size,0,0⟩→s.run P w=.ok (.value (real ρ' (f b))) (w.alloc (.cells (au ρ cs).toArray t)))
  (hf:∀(b:Nat) (D':Dom),D' b→(f b).aY D'):Made P H0 ρ D w s (.cells cs true 0) f:=by
 refine⟨_,hs,?_,hf⟩;intro ρ' D' h1 h2 hl;rw[←eE h2 cs hd];exact ME (jI h1 cs hd) t hl
theorem gV(t:TypeId)(c:Array Value):(newRow t c).run P w=.ok ⟨w.heap.size,0,none⟩ (w.alloc (.cells c t)):=by
 simp[newRow,Result.andThen]
theorem Az{o:Oper}{op:Sy}{rs:List bH}{x:dD}{f:Nat→AV}(he:bJ ρ D n env a)(hc:aD P o.op=some (.a op,rs))(hv:aI op (rs.map env.ev)=some (x,f)):
  Made P H0 ρ D w (execOp a.eval o) x f:=by
 cases ho:o.op<;>rw[ho] at hc
 case alloc t=>
  simp only[aD,Option.bind_eq_some_iff] at hc;obtain⟨z,hz,hc⟩:=hc;obtain⟨hq,hr⟩:=aU hc;simp only[fH.a.injEq] at hq;subst hq;simp[cm] at hr;subst hr;simp only[List.map_nil,aI,Option.some.injEq,Prod.mk.injEq] at hv;obtain⟨rfl,rfl⟩:=hv;have xE:=cO (P:=P) (w:=w) hz ρ D;refine sH t (jj xE.2) ?_ (fun b D' hb=>by simpa[AV.aY] using hb);intro b ρ' hb;unfold execOp;rw[ho];simp only[Instr.alloc,newVar,Sem.run_bind,xE.1,Result.andThen,gV,Sem.run_pure,real,hb,dP]
 case box t y=>
  simp only[aD] at hc;obtain⟨hq,hr⟩:=aU hc;simp only[fH.a.injEq] at hq;subst hq;obtain⟨r,rfl,h1⟩:=fo hr;have e1:=aG he h1;simp only[List.map_cons,List.map_nil,aI,Option.some.injEq,Prod.mk.injEq] at hv;obtain⟨rfl,rfl⟩:=hv;refine sH t (jj e1.2) ?_ (fun b D' hb=>by simpa[AV.aY] using hb);intro b ρ' hb;unfold execOp;rw[ho];simp only[Instr.box,newVar,Sem.run_bind,Result.andThen,gV,Sem.run_pure,real,hb,e1.1,dP]
 case buildSlice t len ps=>
  simp only[aD] at hc;split at hc
  ·rename_i e hu;split at hc
   ·rename_i k z hk hz;split at hc
    ·simp at hc
    ·rename_i oy;simp only[Option.map_eq_some_iff] at hc;obtain⟨⟨RW,as⟩,hps,hq⟩:=hc;simp only[Prod.mk.injEq,fH.a.injEq] at hq;obtain⟨rfl,rfl⟩:=hq;simp only[Bool.or_eq_true,decide_eq_true_eq,bne_iff_ne,ne_eq,not_or,Decidable.not_not] at oy;obtain⟨YS,Bd⟩:=oy;have hp:=tQ he hps;simp only[aI] at hv;split at hv
     ·rename_i cs hf;simp only[Option.some.injEq,Prod.mk.injEq] at hv;obtain⟨rfl,rfl⟩:=hv;have xE:=cO (P:=P) (w:=w) hz ρ D;have hzd:bn D (dU z.cells len):=by
       rw[aS];intro v rT;obtain⟨j,hj⟩:=List.mem_iff_getElem?.1 rT;have hjl:j<len*z.cells.length:=by
        have:=(List.getElem?_eq_some_iff.1 hj).1;rw[eL] at this;exact this
       rw[lX _ _ _ hjl] at hj;exact(aS D _).1 (jj xE.2) v (List.mem_of_getElem? hj)
      have j7:(ps.toList.map (·.1))=RW.map (·.1):=by
       have:=hp.1;have h2:(ps.toList.map (·.1)).map (fun i=>(some (i,0):Option (Nat×Nat)))=RW.map some:=this;have h3:=congrArg (List.map (fun o:Option (Nat×Nat)=>(o.getD (0,0)).1)) h2;simpa[Function.comp_def] using h3
      have Io:=tB (ρ:=ρ) (D:=D) (pl:=fun i=>some (i*k,k)) (idx:=ps.toList.map (·.1)) (by
       rw[j7];simp[Function.comp_def]) hf hp.2.2 hzd
      refine sH e Io.2.1 ?_ (fun b D' hb=>by simpa[AV.aY] using hb);intro b ρ' hb;unfold execOp;rw[ho];have IE:(ps.map fun(i,x)=>(i,a.eval x)).toList=(ps.toList.map (·.1)).zip (au ρ (as.map env.ev)):=by
       rw[←hp.2.1,←om];simp
      simp only[Instr.buildSlice,Sem.run_bind,run_underlying hu,Result.andThen,run_sizeOf hk];rw[if_neg (by omega)];by_cases h0:len*k=0
      ·have Co:dU z.cells len=[]:=List.length_eq_zero_iff.1 (by rw[eL,Bd];exact h0);have Pt:=Io.1;rw[Co,←IE] at Pt;rw[if_pos h0];have QJ:∀g:Nat→Value,(Array.range (len*k)).map g=(au ρ []).toArray:=by intro g;simp[h0,au]
       simp only[Sem.run_bind,Result.andThen,Sem.run_pure,QJ];rw[Pt];simp[gV,real,hb,Result.andThen]
      ·have Pt:=Io.1;rw[←IE,←pN ρ z.cells len (len*k) (by rw[Bd])] at Pt;rw[if_neg h0];simp only[Sem.run_bind,xE.1,Result.andThen,Sem.run_pure,dP];rw[Pt];simp[gV,real,hb,Result.andThen]
     ·simp at hv
   ·simp at hc
  ·simp at hc
 case makeSlice t l c=>
  simp only[aD] at hc;split at hc
  ·rename_i e hu;split at hc
   ·rename_i k Tq z hk Z9 hz;split at hc
    ·simp at hc
    ·rename_i oy;simp only[bne_iff_ne,ne_eq,Decidable.not_not] at oy;obtain⟨hq,hr⟩:=aU hc;simp only[fH.a.injEq] at hq;subst hq;obtain⟨r,s,rfl,h1,h2⟩:=fX hr;have e1:=aG he h1;have e2:=aG he h2;simp only[List.map_cons,List.map_nil,aI] at hv;split at hv
     ·rename_i lv cv hl TQ;cases hg:(Nat.ble lv cv&&Nat.ble (Tq*cv) 140737488355328&&Nat.ble cv 9223372036854775807) with
      |false=>simp[hg] at hv
      |true=>
       simp only[hg,cond_true,Option.some.injEq,Prod.mk.injEq] at hv;obtain⟨rfl,rfl⟩:=hv;simp only[Bool.and_eq_true] at hg;have g1:=Nat.le_of_ble_eq_true hg.1.1;have g2:=Nat.le_of_ble_eq_true hg.1.2;have g3:=Nat.le_of_ble_eq_true hg.2;obtain⟨k1,hl'⟩:=jK hl;obtain⟨k2,fV⟩:=jK TQ;have xE:=cO (P:=P) (w:=w) hz ρ D;have hzd:bn D (dU z.cells cv):=by
        rw[aS];intro v rT;obtain⟨j,hj⟩:=List.mem_iff_getElem?.1 rT;have hjl:j<cv*z.cells.length:=by
         have:=(List.getElem?_eq_some_iff.1 hj).1;rw[eL] at this;exact this
        rw[lX _ _ _ hjl] at hj;exact(aS D _).1 (jj xE.2) v (List.mem_of_getElem? hj)
       refine sH e hzd ?_ (fun b D' hb=>by simpa[AV.aY] using hb);intro b ρ' hb;unfold execOp;rw[ho];have T7:∃i,P.info? e=some i∧i.bytes=Tq:=by
        simp only[qV,Option.map_eq_some_iff] at Z9;obtain⟨i,hi,hb⟩:=Z9;exact⟨i,hi,hb⟩
       obtain⟨i,hi,Ww⟩:=T7;simp only[e1.1,e2.1,hl',fV,real];simp only[Instr.makeSlice,Sem.run_bind,run_underlying hu,Result.andThen,asInt,asIntOf,Sem.run_pure,run_typeInfo hi,Ww,Ej g3,Ej (Nat.le_trans g1 g3)];have hno:((decide ((cv:Int)<0)||decide ((Tq:Int)*(cv:Int)>2^48))||decide ((lv:Int)<0)||decide ((lv:Int)>(cv:Int)))=false:=by
        have kO:(Tq:Int)*(cv:Int)=((Tq*cv:Nat):Int):=by simp
        rw[kO];simp only[Bool.or_eq_false_iff,decide_eq_false_iff_not];refine⟨⟨⟨by omega,?_⟩,by omega⟩,by omega⟩;have:((2:Int)^48)=281474976710656:=by decide
        rw[this];omega
       rw[if_neg (by rw[hno];simp)];simp only[Sem.run_bind,run_askRoom,Result.andThen,Int.toNat_natCast,run_sizeOf hk];by_cases h0:cv*k=0
       ·have Co:dU z.cells cv=[]:=List.length_eq_zero_iff.1 (by rw[eL,oy];exact h0);have QJ:∀g:Nat→Value,(Array.range (cv*k)).map g=(au ρ []).toArray:=by intro g;simp[h0,au]
        rw[if_pos h0,Co];simp only[Sem.run_bind,Result.andThen,Sem.run_pure,QJ,gV];simp[hb]
       ·rw[if_neg h0,←pN ρ z.cells cv (cv*k) (by rw[oy])];simp only[Sem.run_bind,xE.1,Result.andThen,Sem.run_pure,dP,gV];simp[hb]
     ·simp at hv
   ·simp at hc
  ·simp at hc
 case next it s=>
  exfalso;cases s with
  |true=>simp[aD] at hc
  |false=>simp only[aD] at hc;obtain⟨hq,_⟩:=aU hc;simp at hq
 case makeMap t r=>
  cases r with
  |some r=>simp[aD] at hc
  |none=>
   simp only[aD] at hc;obtain⟨hq,hr⟩:=aU hc;simp only[fH.a.injEq] at hq;subst hq;simp[cm] at hr;subst hr;simp only[List.map_nil,aI,Option.some.injEq,Prod.mk.injEq] at hv;obtain⟨rfl,rfl⟩:=hv;refine⟨.map #[] 0,?_,?_,fun b D' hb=>by simpa[AV.aY] using hb⟩
   ·intro b ρ' hb;unfold execOp;rw[ho];simp[Instr.makeMap,real,hb,Result.andThen]
   ·intro ρ' D' _ _ hl;exact⟨#[],0,jJ _ _,hl,rfl,fun p hp=>by simp at hp,rfl,rfl⟩
 case unOp u t x=>
  exfalso;cases u<;>simp only[aD] at hc<;>first
   |(obtain⟨_,_,h2⟩:=bl hc;simp at h2;done)
   |(simp at hc;done)
 all_goals (exfalso;simp only[aD] at hc)
 all_goals repeat' (first
  |(simp only[Option.bind_eq_some_iff] at hc;obtain⟨_,_,hc⟩:=hc)
  |(simp only[Option.map_eq_some_iff] at hc;obtain⟨_,_,hc⟩:=hc;simp at hc;done)
  |(obtain⟨_,_,h2⟩:=bl hc;simp at h2;done)
  |(simp at hc;done)
  |(split at hc))
end
end Ads
end Go.Proofs.YtnlcabhfkpafmaaGreat
set_option linter.unusedSimpArgs false
set_option linter.unusedVariables false
namespace Go.Proofs.YtnlcabhfkpafmaaGreat
namespace Ads
section
variable {P:Program} {H0:Nat} {ρ:cF} {D:Dom} {h h':Heap} {w:World} {n:Nat} {env:Env} {a:Act}
theorem rJ{t:TypeId}{kk:IntKind}(hu:P.underlying t=some (.int kk))(e:Bool)(n:Nat)(v:Value):(Instr.checkKey e (n+1) t v).run P w=.ok () w:=by
 unfold Instr.checkKey;rw[Sem.run_bind,run_underlying hu];simp only[Result.andThen];cases v<;>simp
theorem RD{k x:AV}(he:fj k x=some true):k=x:=by
 unfold fj at he;split at he
 ·rename_i k1 a k2 b;cases hk:decide (k1=k2) with
  |false=>simp[hk] at he
  |true=>
   simp only[hk,cond_true,Option.some.injEq,beq_iff_eq] at he;rw[of_decide_eq_true hk,he]
 ·simp at he
theorem sR{k x:AV}{c:Bool}{kk:IntKind}(he:fj k x=some c):Instr.sameNow (.int kk) (real ρ k) (real ρ x)=some c:=by
 unfold fj at he;split at he
 ·rename_i k1 a k2 b;cases hk:decide (k1=k2) with
  |false=>simp[hk] at he
  |true=>
   simp only[hk,cond_true,Option.some.injEq] at he;simp only[real,Instr.sameNow];rw[if_pos (of_decide_eq_true hk),he]
 ·simp at he
theorem Nz{k x:AV}{c:Bool}(he:fj k x=some c):∃kd n,k=.int kd n:=by
 unfold fj at he;split at he
 ·exact⟨_,_,rfl⟩
 ·simp at he
theorem kV{kk:IntKind}{k v:AV}:∀(es:List (AV×AV)) (ms:List MapEntry) (i:Nat) {r:Option AV},ms.map (fun m=>(m.key,m.val))=es.map (fun p=>(real ρ p.1,real ρ p.2))→findKey k es=some r→
  match r with
  |none=>Instr.findNow (.int kk) (real ρ k) ms i=some none∧putKey k v es=es++[(k,v)]
  |some u=>∃j,Instr.findNow (.int kk) (real ρ k) ms i=some (some (i+j,real ρ u))∧(ms[j]?).map (·.key)=some (real ρ k)∧(∃p,p∈es∧p.2=u)∧(∃kd n,k=.int kd n)∧
    (ms.modify j fun e=>{e with key:=real ρ k,val:=real ρ v}).map (fun m=>(m.key,m.val))=(putKey k v es).map fun p=>(real ρ p.1,real ρ p.2)
 |[],ms,i,r,hm,hf=>by
  simp only[findKey,Option.some.injEq] at hf;subst hf;have:ms=[]:=by simpa using hm
  subst this;exact⟨rfl,rfl⟩
 |(x,u)::es,ms,i,r,hm,hf=>by
  cases ms with
  |nil=>simp at hm
  |cons m ms=>
   simp only[List.map_cons,List.cons.injEq,Prod.mk.injEq] at hm;obtain⟨⟨h1,h2⟩,h3⟩:=hm;simp only[findKey] at hf;split at hf
   ·rename_i he;simp only[Option.some.injEq] at hf;subst hf;have hkx:=RD he;have hs:=sR (ρ:=ρ) (kk:=kk) he;refine⟨0,?_,?_,⟨_,List.mem_cons_self,rfl⟩,Nz he,?_⟩
    ·simp only[Instr.findNow,h1,hs,h2,Nat.add_zero]
    ·simp[h1,hkx]
    ·simp only[putKey,he,List.map_cons,h3.symm,List.modify_zero_cons]
   ·rename_i he;have hs:=sR (ρ:=ρ) (kk:=kk) he;have ih:=kV (kk:=kk) (v:=v) es ms (i+1) h3 hf;cases r with
    |none=>
     simp only at ih⊢;refine⟨by simp only[Instr.findNow,h1,hs];exact ih.1,?_⟩;simp only[putKey,he,ih.2,List.cons_append]
    |some u'=>
     simp only at ih⊢;obtain⟨j,i1,i2,⟨p,hp,Zm⟩,i4,i3⟩:=ih;refine⟨j+1,?_,?_,⟨p,List.mem_cons_of_mem _ hp,Zm⟩,i4,?_⟩
     ·simp only[Instr.findNow,h1,hs];rw[i1]
      congr 3
      omega
     ·simpa using i2
     ·simp only[putKey,he,List.map_cons,←i3,List.modify_succ_cons,h1,h2]
   ·simp at hf
theorem run_findKey{t:TypeId}{kk:IntKind}{K:Value}{ms:List MapEntry}{q:Option (Nat×Value)}(hu:P.underlying t=some (.int kk))(hf:Instr.findNow (.int kk) K ms 0=some q):(Instr.findKey t K ms).run P w=.ok q w:=by
 unfold Instr.findKey;rw[Sem.run_bind,run_underlying hu];simp only[Result.andThen,hf,Sem.run_pure]
theorem vG{st:Nat}{v:AV}:∀(es:List (AV×AV)) (bs:List Nat) (ms:List MapEntry),ms.map (fun m=>(m.key,m.val))=es.map (fun p=>(real ρ p.1,real ρ p.2))→ms.map (fun m=>m.born)=bs→
  (∀p∈es,p.1.aY D∧p.2.aY D)→pX st bs es=some v→∃k u,v=.cq [k,u]∧∃e:MapEntry,ms.find? (fun x=>x.born==st)=some e∧real ρ k=e.key∧real ρ u=e.val∧k.aY D∧u.aY D
 |[],bs,ms,hm,hb,hd,hv=>by cases bs<;>simp[pX] at hv
 |(k,u)::es,[],ms,hm,hb,hd,hv=>by simp[pX] at hv
 |(k,u)::es,b::bs,[],hm,hb,hd,hv=>by simp at hm
 |(k,u)::es,b::bs,m::ms,hm,hb,hd,hv=>by
  simp only[List.map_cons,List.cons.injEq,Prod.mk.injEq] at hm hb;simp only[pX] at hv;cases GK:Nat.beq b st with
  |true=>
   simp only[GK,cond_true,Option.some.injEq] at hv;have:=Nat.eq_of_beq_eq_true GK;exact⟨k,u,hv.symm,m,by simp[List.find?_cons,hb.1,this],hm.1.1.symm,hm.1.2.symm,(hd _ List.mem_cons_self).1,(hd _ List.mem_cons_self).2⟩
  |false=>
   simp only[GK,cond_false] at hv;obtain⟨k',u',rfl,e,h1,h2⟩:=vG es bs ms hm.2 hb.2 (fun p hp=>hd p (List.mem_cons_of_mem _ hp)) hv;have hne:(m.born==st)=false:=by
    rw[hb.1];cases hx:(b==st) with
    |false=>rfl
    |true=>rw[beq_iff_eq.1 hx,Nat.beq_refl] at GK;simp at GK
   exact⟨k',u',rfl,e,by rw[List.find?_cons,hne];exact h1,h2⟩
theorem xK:∀{cs:List AV} {s:List UInt8},cR cs=some s→∃ns:List Int,au ρ cs=ns.map (Value.int .u8)∧ns.foldl (fun(r:ByteArray) n=>r.push (UInt8.ofNat n.toNat)) ByteArray.empty=⟨s.toArray⟩:=by
 have key:∀(cs:List AV) (s:List UInt8),cR cs=some s→∃ns:List Int,au ρ cs=ns.map (Value.int .u8)∧∀l:List UInt8,ns.foldl (fun(r:ByteArray) n=>r.push (UInt8.ofNat n.toNat)) ⟨l.toArray⟩=⟨(l++s).toArray⟩:=by
  intro cs;induction cs with
  |nil=>
   intro s hs;simp only[cR,Option.some.injEq] at hs;subst hs;exact⟨[],by simp[au],fun l=>by simp⟩
  |cons c cs ih=>
   intro s hs;cases c with
   |int k m=>
    cases k<;>simp only[cR,Option.map_eq_some_iff] at hs<;>try(simp at hs;done)
    obtain⟨s',h1,rfl⟩:=hs;obtain⟨ns,g1,g2⟩:=ih s' h1;refine⟨m::ns,by simp[au,real,g1],fun l=>?_⟩;simp only[List.foldl_cons];have:(ByteArray.push ⟨l.toArray⟩ (UInt8.ofNat m.toNat))=⟨(l++[UInt8.ofNat m.toNat]).toArray⟩:=by
     simp[ByteArray.push]
    rw[this,g2];simp
   |_=>simp[cR] at hs
 intro cs s hs;obtain⟨ns,g1,g2⟩:=key cs s hs;exact⟨ns,g1,g2 []⟩
theorem BT{o:Oper}{op:DL}{rs:List bH}{v:AV}(he:bJ ρ D n env a)(i:Inv P H0 ρ D h w)(hc:aD P o.op=some (.r op,rs))(hv:rI op (rs.map env.ev) h=some v):
  xg P ρ D w (execOp a.eval o) v:=by
 cases ho:o.op<;>rw[ho] at hc
 case load t x=>
  simp only[aD] at hc;split at hc
  ·rename_i k hg hk;obtain⟨hq,hr⟩:=aU hc;simp only[fH.r.injEq] at hq;subst hq;obtain⟨r,rfl,h1⟩:=fo hr;have e1:=aG he h1;simp only[List.map_cons,List.map_nil] at hv;cases hx:env.ev r with
   |ptr b o'=>
    rw[hx] at hv e1;simp only[AV.aY] at e1;simp only[rI,Option.map_eq_some_iff] at hv;obtain⟨cs,hl,rfl⟩:=hv;have hrun:=cg (P:=P) i e1.2 hl;unfold execOp;rw[ho];refine bM ?_ (by simp only[AV.aY];exact hrun.2);simp only[Instr.loadAt,e1.1,real,Instr.sureAddr,Sem.run_bind,Sem.run_pure,Result.andThen,loadVar,lz hg,if_true,run_sizeOf hk,hrun.1]
   |_=>rw[hx] at hv;simp[rI] at hv
  ·rename_i k hg hk;obtain⟨hq,hr⟩:=aU hc;simp only[fH.r.injEq] at hq;subst hq;obtain⟨r,rfl,h1⟩:=fo hr;have e1:=aG he h1;simp only[List.map_cons,List.map_nil] at hv;cases hx:env.ev r with
   |ptr b o'=>
    rw[hx] at hv e1;simp only[AV.aY] at e1;simp only[rI] at hv;have kY:=cell_of i e1.2 hv;unfold execOp;rw[ho];refine bM ?_ kY.2;simp only[Instr.loadAt,e1.1,real,Instr.sureAddr,Sem.run_bind,Sem.run_pure,Result.andThen,loadVar,lz hg,Bool.false_eq_true,if_false];rw[run_load,kY.1]
   |_=>rw[hx] at hv;simp[rI] at hv
  ·simp at hc
 case convert src dst x=>
  simp only[aD] at hc;split at hc
  ·exfalso;obtain⟨hq,_⟩:=aU hc;simp at hq
  ·exfalso;obtain⟨hq,_⟩:=aU hc;simp at hq
  ·exfalso;split at hc
   ·obtain⟨hq,_⟩:=aU hc;simp at hq
   ·simp at hc
  ·rename_i e hs hd;split at hc
   ·rename_i Wq;obtain⟨hq,hr⟩:=aU hc;simp only[fH.r.injEq] at hq;subst hq;obtain⟨r,rfl,h1⟩:=fo hr;have e1:=aG he h1;simp only[List.map_cons,List.map_nil] at hv;unfold execOp;rw[ho];simp only[e1.1];cases hx:env.ev r with
    |aL=>
     rw[hx] at hv;cases hv
     refine bM ?_ (by simp[AV.aY]);show(convert src dst (.slice none 0 0)).run P w=_;rw[run_convert_bytes_string w src dst e none 0 0 hs Wq hd];rfl
    |gY wa=>
     rw[hx] at hv;cases hv
     refine bM ?_ (by simp[AV.aY]);simp only[real];rw[run_convert_bytes_string w src dst e _ _ _ hs Wq hd,run_bytesToString w _ 0 _ [] (by simp[loadCells,loadCellsFrom])];rfl
    |rest b o j=>
     rw[hx] at hv;cases hv
     refine bM ?_ (by simp[AV.aY]);simp only[real];rw[run_convert_bytes_string w src dst e _ _ _ hs Wq hd,run_bytesToString w _ 0 _ [] (by simp[loadCells,loadCellsFrom])];rfl
    |sl b o len cap lZ=>
     rw[hx] at hv e1;simp only[AV.aY] at e1;simp only[rI] at hv;split at hv
     ·rename_i cs hl;simp only[Option.map_eq_some_iff] at hv;obtain⟨s,hsb,rfl⟩:=hv;have hrun:=cg (P:=P) i e1.2 hl;obtain⟨ns,Ue,hss⟩:=xK (ρ:=ρ) hsb;rw[Ue] at hrun;refine bM ?_ (by simp[AV.aY]);simp only[real];rw[run_convert_bytes_string w src dst e _ _ _ hs Wq hd,run_bytesToString w _ len _ ns hrun.1,hss]
     ·simp at hv
    |_=>rw[hx] at hv;simp[rI] at hv
   ·simp at hc
  ·simp at hc
 case unOp u t x=>
  exfalso;cases u<;>simp only[aD] at hc<;>first
   |(obtain⟨_,_,h2⟩:=bl hc;simp at h2;done)
   |(simp at hc;done)
 case lookup t m k ok=>
  simp only[aD] at hc;split at hc
  ·rename_i kt e hu;split at hc
   ·rename_i kk hk;simp only[Option.bind_eq_some_iff] at hc;obtain⟨z,hz,hc⟩:=hc;obtain⟨hq,hr⟩:=aU hc;simp only[fH.r.injEq] at hq;subst hq;obtain⟨r,q,rfl,h1,h2⟩:=fX hr;have e1:=aG he h1;have e2:=aG he h2;have xE:=cO (P:=P) (w:=w) hz ρ D;simp only[List.map_cons,List.map_nil] at hv;unfold execOp;rw[ho];simp only[e1.1,e2.1];cases hr':env.ev r with
    |map b=>
     rw[hr'] at hv e1;simp only[AV.aY] at e1;simp only[rI] at hv;split at hv
     ·rename_i es bs c hg;obtain⟨ms,clock,hcell,ri,s7,vT,-⟩:=i.bK b _ e1.2 hg;have cP:(getObj (ρ b).bK).run P w=.ok (.map ms clock) w:=by simp[getObj,Sem.run,hcell]
      split at hv
      ·rename_i u hf;simp only[Option.some.injEq] at hv;subst hv;obtain⟨j,f1,-,⟨p,hp,Zm⟩,-,-⟩:=kV (ρ:=ρ) (kk:=kk) (v:=.undef) es ms.toList 0 s7 hf;have Uq:u.aY D:=Zm▸(vT p hp).2;refine bM ?_ (by cases ok<;>simp[AV.aY,bn,Uq]);simp only[Instr.lookup,real,Sem.run_bind,run_underlying hu,Result.andThen,cP,rJ hk,run_findKey hk f1,Sem.run_pure];cases ok<;>simp[real,au]
      ·rename_i hf;simp only[Option.some.injEq] at hv;subst hv;obtain⟨f1,-⟩:=kV (ρ:=ρ) (kk:=kk) (v:=.undef) es ms.toList 0 s7 hf;refine bM ?_ (by cases ok<;>simp[AV.aY,bn,xE.2]);simp only[Instr.lookup,real,Sem.run_bind,run_underlying hu,Result.andThen,cP,rJ hk,run_findKey hk f1,Sem.run_pure,xE.1];cases ok<;>simp[real,au]
      ·simp at hv
     ·simp at hv
    |kF=>
     rw[hr'] at hv e1;simp only[rI,Option.some.injEq] at hv;subst hv;refine bM ?_ (by cases ok<;>simp[AV.aY,bn,xE.2]);simp only[Instr.lookup,real,Sem.run_bind,run_underlying hu,Result.andThen,rJ hk,run_findKey hk (ms:=[]) rfl,Sem.run_pure,xE.1];cases ok<;>simp[real,au]
    |_=>rw[hr'] at hv;simp[rI] at hv
   ·exfalso;obtain⟨hq,_⟩:=aU hc;simp at hq
   ·exfalso;obtain⟨hq,_⟩:=aU hc;simp at hq
   ·simp at hc
  ·simp at hc
 case entry it=>
  simp only[aD] at hc;obtain⟨hq,hr⟩:=aU hc;simp only[fH.r.injEq] at hq;subst hq;obtain⟨r,rfl,h1⟩:=fo hr;have e1:=aG he h1;simp only[List.map_cons,List.map_nil] at hv;have hx:∃it',env.ev r=.ptr it' 0:=by
   cases hx:env.ev r with
   |ptr it' oo=>cases oo with
    |zero=>exact⟨it',rfl⟩
    |succ oo=>rw[hx] at hv;simp[rI] at hv
   |_=>rw[hx] at hv;simp[rI] at hv
  obtain⟨it',hx⟩:=hx;rw[hx] at e1 hv;simp only[AV.aY] at e1;simp only[rI] at hv;split at hv
  ·rename_i m since seen last hg;split at hv
   ·rename_i st es bs c hst hm;cases hb:Nat.beq c last with
    |false=>simp[hb] at hv
    |true=>
     simp only[hb,cond_true] at hv;have kY:=Nat.eq_of_beq_eq_true hb;obtain⟨_,Cl,SO,sn,hcell,IN⟩:=i.bK it' _ e1.2 hg;obtain⟨ms,clock,vS,_,s7,vT,xA,uW⟩:=i.bK m _ Cl hm;obtain⟨k,u,rfl,e,hf,xC,hk2,Ck,TT⟩:=vG (ρ:=ρ) (D:=D) es bs ms.toList s7 uW vT hv;have Bb:sn.back?=some st:=by rw[←Array.getLast?_toList,IN];exact hst
     unfold execOp;rw[ho];refine bM ?_ (by simp[AV.aY,bn,Ck,TT]);have Wr:ms.find? (fun x=>x.born==st)=some e:=by rw[←Array.find?_toList];exact hf
     simp only[e1.1,real,Nat.add_zero,Instr.entry,Sem.run_bind,getObj,Sem.run,SO,hcell,Result.andThen,Bb,vS,xA,kY,bne_self_eq_false,Bool.false_eq_true,if_false,Wr,xC,hk2,au];rfl
   ·simp at hv
  ·simp at hv
 case next it s=>
  exfalso;cases s with
  |true=>simp[aD] at hc
  |false=>simp only[aD] at hc;obtain⟨hq,_⟩:=aU hc;simp at hq
 case makeMap t r=>
  exfalso;cases r with
  |none=>simp only[aD] at hc;obtain⟨hq,_⟩:=aU hc;simp at hq
  |some r=>simp[aD] at hc
 all_goals (exfalso;simp only[aD] at hc)
 all_goals repeat' (first
  |(simp only[Option.bind_eq_some_iff] at hc;obtain⟨_,_,hc⟩:=hc)
  |(simp only[Option.map_eq_some_iff] at hc;obtain⟨_,_,hc⟩:=hc;simp at hc;done)
  |(obtain⟨_,_,h2⟩:=bl hc;simp at h2;done)
  |(simp at hc;done)
  |(split at hc))
theorem Dd(hm:∀b x,h.get b=some x→h'.get b=some x){b o:Nat}{v:AV}(hl:h.ck b o=some v):h'.ck b o=some v:=by
 unfold Heap.ck Heap.row at hl⊢;cases hg:h.get b with
 |none=>simp[hg] at hl
 |some x=>rw[hm b x hg];simpa[hg] using hl
theorem wq(hm:∀b x,h.get b=some x→h'.get b=some x){b o k:Nat}{v:List AV}(hl:h.aZ b o k=some v):h'.aZ b o k=some v:=by
 unfold Heap.aZ Heap.row at hl⊢;cases hg:h.get b with
 |none=>simp[hg] at hl
 |some x=>rw[hm b x hg];simpa[hg] using hl
theorem EI(hm:∀b x,h.get b=some x→h'.get b=some x){op:DL}{vals:List AV}{v:AV}(hv:rI op vals h=some v):rI op vals h'=some v:=by
 unfold rI at hv⊢;split at hv
 ·exact Dd hm hv
 ·simp only[Option.map_eq_some_iff] at hv⊢;obtain⟨cs,hl,rfl⟩:=hv;exact⟨cs,wq hm hl,rfl⟩
 ·rename_i ok zero b k;cases hg:h.get b with
  |none=>simp[hg] at hv
  |some x=>rw[hm b x hg];rw[hg] at hv;exact hv
 ·exact hv
 ·exact hv
 ·exact hv
 ·exact hv
 ·rename_i b o len _ _;cases hl:h.aZ b o len with
  |none=>simp[hl] at hv
  |some cs=>rw[wq hm hl];rw[hl] at hv;exact hv
 ·exact hv
 ·rename_i b;cases hg:h.get b with
  |none=>simp[hg] at hv
  |some x=>rw[hm b x hg];rw[hg] at hv;exact hv
 ·rename_i it;cases hg:h.get it with
  |none=>simp[hg] at hv
  |some x=>
   rw[hm it x hg];rw[hg] at hv;split at hv
   ·rename_i m since seen last heq;simp only[Option.some.injEq] at heq;subst heq;split at hv
    ·rename_i st es bs c h1 h2;rw[h1,hm m _ h2];exact hv
    ·simp at hv
   ·simp at hv
 ·simp at hv
def vn(P:Program)(H0:Nat)(ρ:cF)(D:Dom)(h:Heap)(w:World)(s:Sem Next)(v:AV)(h':Heap):Prop:=
 ∃ρ' w',(s.run P w=.ok (.value (real ρ' v)) w'∨(s.run P w=.ok .skip w'∧v=.undef))∧
  Inv P H0 ρ' (grow D h.next h'.next) h' w'∧Ext ρ D h w ρ' h' w'∧v.aY (grow D h.next h'.next)
theorem setRow_size(w:World)(g:Nat)(o:Obj):(setRow w g o).heap.size=w.heap.size:=by simp[setRow]
theorem oh(i:Inv P H0 ρ D h w){b o:Nat}{xs:List AV}(hd:D b)(hx:bn D xs)(hs:h.fy b o xs=some h'):
  h'.next=h.next∧∃w',(storeCells ⟨(ρ b).bK,(ρ b).off+o,none⟩ (au ρ xs)).run P w=.ok () w'∧Inv P H0 ρ D h' w'∧Ext ρ D h w ρ h' w':=by
 unfold Heap.fy at hs;split at hs
 ·rename_i vs es hg;cases hc:(Nat.ble (o+xs.length) vs.length&&bA xs) with
  |false=>simp[hc] at hs
  |true=>
   simp only[hc,cond_true,Option.some.injEq] at hs;subst hs;simp only[Bool.and_eq_true] at hc;have hle:=Nat.le_of_ble_eq_true hc.1;obtain⟨c,t,fr,hcell,h1,h2⟩:=i.bK b _ hd hg;obtain⟨h3,h4,h5⟩:=h2 rfl;have iM:h.wr b=true:=by simp[Heap.wr,hg]
   have hrun:=jz (P:=P) (ρ b).bK t fr (au ρ xs) ((ρ b).off+o) 0 c w hcell (by
     intro v hv;rw[cG] at hv;obtain⟨x,hx',rfl⟩:=List.mem_map.1 hv;exact vJ (pY hc.2 x hx')) (by rw[aP];omega) h5
   refine⟨rfl,_,hrun,?_⟩;have hlt:=(Array.getElem?_eq_some_iff.1 hcell).1;refine pJ i hd iM rfl (setRow_size _ _ _) (fun r hr=>by rw[di,if_neg hr]) rfl rfl rfl ?_;refine⟨_,t,fr,by rw[di,if_pos rfl,if_pos hlt],?_,fun _=>⟨h3,?_,?_⟩⟩
   ·intro j v hj;rw[Heap.eH _ _ _ _ hle] at hj;rw[List.getElem?_toArray,Heap.eH _ _ _ _ (by simp[aP];omega),aP];split at hj
    ·rename_i Y5;rw[if_pos ⟨by omega,by omega⟩];refine⟨?_,(aS D xs).1 hx v (List.mem_of_getElem? hj)⟩;rw[ee,show(ρ b).off+j-((ρ b).off+o+0)=j-o by omega,hj];rfl
    ·rename_i Y5;rw[if_neg (by omega)];have:=h1 j v hj;exact⟨by simpa using this.1,this.2⟩
   ·simp only[List.size_toArray,Heap.dZ,Array.length_toList];exact h4
   ·simpa[Heap.dZ] using h5
 ·simp at hs
end
end Ads
end Go.Proofs.YtnlcabhfkpafmaaGreat
set_option linter.unusedSimpArgs false
set_option linter.unusedVariables false
namespace Go.Proofs.YtnlcabhfkpafmaaGreat
namespace Ads
section
variable {P:Program} {H0:Nat} {ρ:cF} {D:Dom} {h h':Heap} {w:World} {n:Nat} {env:Env} {a:Act}
theorem De{b o k m:Nat}{vs:List AV}(hl:h.aZ b o k=some vs)(hm:m≤k):h.aZ b o m=some (vs.take m):=by
 unfold Heap.aZ at hl⊢;cases hr:h.row b with
 |none=>simp[hr] at hl
 |some xs=>
  simp only[hr] at hl⊢;cases hb:Nat.ble (o+k) xs.length with
  |false=>simp[hb] at hl
  |true=>
   simp only[hb,cond_true,Option.some.injEq] at hl;have hle:=Nat.le_of_ble_eq_true hb;have:Nat.ble (o+m) xs.length=true:=Nat.ble_eq_true_of_le (by omega);simp only[this,cond_true,Option.some.injEq];rw[←hl,List.take_take,Nat.min_eq_left hm]
theorem lT(i:Inv P H0 ρ D h w){size k:Nat}{x:AV}{cs:List AV}(hd:x.aY D)(hs:aW size h x=some (k,cs)):
  (Builtin.lenOf (real ρ x)).run P w=.ok k w∧bn D cs∧
  ((∀s,x≠.str s)→∀m,m≤k→(Builtin.firstCells size m (real ρ x)).run P w=.ok (au ρ (cs.take (m*size))).toArray w)∧
  (Builtin.firstCells size k (real ρ x)).run P w=.ok (au ρ cs).toArray w:=by
 cases x with
 |aL=>
  simp only[aW,Option.some.injEq,Prod.mk.injEq] at hs;obtain⟨rfl,rfl⟩:=hs;exact⟨by simp[Builtin.lenOf,real],by simp[bn],fun _ m _=>by simp[Builtin.firstCells,real,au],by simp[Builtin.firstCells,real,au]⟩
 |gY wa=>
  simp only[aW,Option.some.injEq,Prod.mk.injEq] at hs;obtain⟨rfl,rfl⟩:=hs;refine⟨by simp[Builtin.lenOf,real],by simp[bn],fun _ m hm=>?_,by simp[Builtin.firstCells,real,au,loadCells,loadCellsFrom]⟩;have:m=0:=by omega
  subst this;simp[Builtin.firstCells,real,au,loadCells,loadCellsFrom]
 |rest b o j=>
  simp only[aW,Option.some.injEq,Prod.mk.injEq] at hs;obtain⟨rfl,rfl⟩:=hs;refine⟨by simp[Builtin.lenOf,real],by simp[bn],fun _ m hm=>?_,by simp[Builtin.firstCells,real,au,loadCells,loadCellsFrom]⟩;have:m=0:=by omega
  subst this;simp[Builtin.firstCells,real,au,loadCells,loadCellsFrom]
 |sl b o len cap lZ=>
  simp only[aW,Option.map_eq_some_iff,Prod.mk.injEq] at hs;obtain⟨cs',hl,rfl,rfl⟩:=hs;simp only[AV.aY] at hd;have hfull:=cg (P:=P) i hd hl;refine⟨by simp[Builtin.lenOf,real],hfull.2,fun _ m hm=>?_,?_⟩
  ·have:=cg (P:=P) i hd (De hl (Nat.mul_le_mul_right size hm));simp only[Builtin.firstCells,real];exact this.1
  ·simp only[Builtin.firstCells,real];exact hfull.1
 |str s=>
  simp only[aW] at hs;cases h1:Nat.beq size 1 with
  |false=>simp[h1] at hs
  |true=>
  simp only[h1,cond_true,Option.some.injEq,Prod.mk.injEq] at hs;obtain⟨rfl,rfl⟩:=hs;have hsz:(⟨s.toArray⟩:ByteArray).size=s.length:=by simp only[ByteArray.size,List.size_toArray]
  refine⟨by simp only[Builtin.lenOf,real,Sem.run_pure,hsz],?_,fun hne=>absurd rfl (hne s),?_⟩
  ·rw[aS];intro v hv;obtain⟨b,_,rfl⟩:=List.mem_map.1 hv;simp[AV.aY]
  ·simp only[Builtin.firstCells,real,Sem.run_pure]
   congr 1
   have:(⟨s.toArray⟩:ByteArray).extract 0 s.length=⟨s.toArray⟩:=by
    apply ByteArray.ext;rw[ByteArray.data_extract];apply Array.ext';simp
   rw[this];apply Array.ext';simp[cG,real,Function.comp_def]
 |_=>simp[aW] at hs
theorem jD(z:Array Value)(k:Nat):(Builtin.zeroCells z k).size=k*z.size:=by simp[Builtin.zeroCells]
theorem p7(i:Inv P H0 ρ D h w){cs:List AV}(t:TypeId)(es extra:Nat)(rest:Array Value)(hd:bn D cs)(hr:rest.size=extra*es):
  let L:Loc:=⟨w.heap.size,0,extra⟩
  Inv P H0 (iz ρ h.next L) (grow D h.next (h.next+1)) (h.new (.cells cs true es)) (w.drew.alloc (.cells ((au ρ cs).toArray++rest) t))∧
  Ext ρ D h w (iz ρ h.next L) (h.new (.cells cs true es)) (w.drew.alloc (.cells ((au ρ cs).toArray++rest) t)):=by
 intro L;refine pH i _ extra (.cells ((au ρ cs).toArray++rest) t) rfl rfl rfl rfl ?_;have gL:∀b,D b→iz ρ h.next L b=ρ b:=fun b hb=>jR _ _ (by have:=i.lt b hb;omega);refine⟨_,t,(0,0),jJ w.drew _,?_,fun _=>⟨i.low,?_,fun j h1 h2=>by simp at h2⟩⟩
 ·intro j v hj;have hjl:j<cs.length:=(List.getElem?_eq_some_iff.1 hj).1;have hv:=(aS D cs).1 hd v (List.mem_of_getElem? hj);refine⟨?_,cK (fun _=>.inl) v hv⟩;rw[cu gL v hv];simp only[Nat.zero_add];rw[Array.getElem?_append_left (by simp[aP];exact hjl),List.getElem?_toArray,ee,hj];rfl
 ·simp[aP,hr]
theorem kg(ρ:cF)(l m:List AV):(au ρ l).toArray++(au ρ m).toArray=(au ρ (l++m)).toArray:=by
 rw[iw];simp
theorem sP{t u e ty:TypeId}{z:AV}{size bytes k m cap:Nat}{base:Option Addr}{xv:Value}{old new:Array Value}{d:TypeDesc}(hu:P.underlying t=some (.slice e))(hd:P.underlying u=some d)(hx:oX d=true)
  (hs:eN P e=some size)(hb:qV P e=some bytes)(hz:mE P e=some z)
  (hlen:(Builtin.lenOf xv).run P w=.ok m w)(hold:(Builtin.firstCells size k (.slice base k cap)).run P w.drew=.ok old w.drew)
  (hnew:(Builtin.firstCells size m xv).run P w.drew=.ok new w.drew)(hgt:¬k+m≤cap)(q8:(k+m)*bytes≤140737488355328)(kO:k+m≤9223372036854775807):
  ∃Df,k+m≤Df∧(Builtin.append_ #[t,u] ty #[.slice base k cap,xv]).run P w=
   .ok (.slice (some ⟨w.heap.size,0,none⟩) (k+m) Df) (w.drew.alloc (.cells (old++new++Builtin.zeroCells (real ρ z).cells (Df-(k+m))) e)):=by
 obtain⟨i,hi,Ww⟩:∃i,P.info? e=some i∧i.bytes=bytes:=by
  simp only[qV,Option.map_eq_some_iff] at hb;obtain⟨i,hi,hb⟩:=hb;exact⟨i,hi,hb⟩
 have hzd:(zeroValue e).run P w.drew=.ok (real ρ z) w.drew:=(cO hz ρ (fun _=>True)).1;have hsz:(sizeOf e).run P w=.ok size w:=run_sizeOf hs;have Zd:=nextslicecap_le (need:=k+m) (old:=cap) (by omega);refine⟨(Question.appendCap (k+m) cap e).cut (w.tape w.drawn (.appendCap (k+m) cap e)),Nat.le_add_right _ _,?_⟩;have h63:¬(9223372036854775807<((k:Int)+(m:Int))):=by omega
 have h48:¬(281474976710656<Builtin.nextslicecap (k+m) cap*bytes):=by
  have:Builtin.nextslicecap (k+m) cap*bytes≤2*(k+m)*bytes:=Nat.mul_le_mul_right _ Zd;have h3:2*(k+m)*bytes=2*((k+m)*bytes):=Nat.mul_assoc _ _ _;omega
 cases d<;>simp[oX] at hx
 ·simp[Builtin.append_,run_underlying hu,run_underlying hd,hsz,run_typeInfo hi,Ww,hlen,hgt,h63,h48,Question.forced,hold,hnew,hzd,gV,Result.andThen]
 ·simp[Builtin.append_,run_underlying hu,run_underlying hd,hsz,run_typeInfo hi,Ww,hlen,hgt,h63,h48,Question.forced,hold,hnew,hzd,gV,Result.andThen]
theorem nk{t u e ty:TypeId}{size k m cap:Nat}{base:Option Addr}{xv:Value}{new:Array Value}{d:TypeDesc}{w':World}(hu:P.underlying t=some (.slice e))(hd:P.underlying u=some d)(hx:oX d=true)
  (hs:eN P e=some size)(hlen:(Builtin.lenOf xv).run P w=.ok m w)(hnew:(Builtin.firstCells size m xv).run P w=.ok new w)(hle:k+m≤cap)
  (hst:∀a,base=some a→(storeCells (a.add (k*size)) new.toList).run P w=.ok () w')(hn:base=none→w'=w):
  (Builtin.append_ #[t,u] ty #[.slice base k cap,xv]).run P w=.ok (.slice base (k+m) cap) w':=by
 have hsz:(sizeOf e).run P w=.ok size w:=run_sizeOf hs;cases base with
 |none=>
  have:=hn rfl;subst this;cases d<;>simp[oX] at hx
  ·simp[Builtin.append_,run_underlying hu,run_underlying hd,hsz,hlen,hle,hnew,Result.andThen]
  ·simp[Builtin.append_,run_underlying hu,run_underlying hd,hsz,hlen,hle,hnew,Result.andThen]
 |some a=>
  have h1:=hst a rfl;cases d<;>simp[oX] at hx
  ·simp[Builtin.append_,run_underlying hu,run_underlying hd,hsz,hlen,hle,hnew,h1,Result.andThen]
  ·simp[Builtin.append_,run_underlying hu,run_underlying hd,hsz,hlen,hle,hnew,h1,Result.andThen]
end
end Ads
end Go.Proofs.YtnlcabhfkpafmaaGreat
set_option linter.unusedSimpArgs false
set_option linter.unusedVariables false
namespace Go.Proofs.YtnlcabhfkpafmaaGreat
namespace Ads
section
variable {P:Program} {H0:Nat} {ρ:cF} {D:Dom} {h h':Heap} {w:World} {n:Nat} {env:Env} {a:Act}
theorem sj(i:Inv P H0 ρ D h w):Inv P H0 ρ D h w.drew where
 lt:=i.lt
 top:=i.top
 low:=i.low
 bK:=fun b x hd hx=>bQ (i.bK b x hd hx) (fun _=>id) (fun _ _=>rfl) rfl
 apart:=i.apart
theorem MR(i:Inv P H0 ρ D h w){b:Nat}(hd:D b):Inv P H0 ρ D (h.del b) w∧Ext ρ D h w ρ (h.del b) w:=by
 have cP:∀c x,(h.del b).get c=some x→h.get c=some x:=by
  intro c x hx;rw[Heap.cL] at hx;split at hx
  ·simp at hx
  ·exact hx
 have iM:∀c,(h.del b).wr c=true→h.wr c=true:=by
  intro c hx;rw[xd] at hx;split at hx
  ·simp at hx
  ·exact hx
 constructor
 ·refine⟨i.lt,?_,i.low,fun c x hc hx=>i.bK c x hc (cP c x hx),?_⟩
  ·intro c hc;rw[Heap.cL];split
   ·rfl
   ·exact i.top c hc
  ·intro c c' hc fV hne hw hg;refine i.apart c c' hc fV hne (iM c hw) ?_;cases hx:(h.del b).get c' with
   |none=>exact absurd hx hg
   |some x=>rw[cP c' x hx];simp
 ·refine⟨Nat.le_refl _,fun _ _=>rfl,Nat.le_refl _,fun _ _ _=>rfl,?_,?_,fun _ h1 h2=>by simp at h2;omega,rfl,rfl,rfl⟩
  ·intro c _ hc;rw[Heap.cL,if_neg (fun e=>hc (by rw[e];exact hd))]
  ·intro c _ hn;rw[Heap.cL] at hn;rw[xd];split at hn
   ·simp at hn
   ·rename_i hne;rw[if_neg hne];exact⟨hn,id⟩
theorem og{size m:Nat}{h:Heap}{x:AV}{new:List AV}(hsc:aW size h x=some (m,new)):new.length=m*size:=by
 cases x with
 |aL=>simp[aW] at hsc;obtain⟨rfl,rfl⟩:=hsc;simp
 |gY wa=>simp[aW] at hsc;obtain⟨rfl,rfl⟩:=hsc;simp
 |rest b o j=>simp[aW] at hsc;obtain⟨rfl,rfl⟩:=hsc;simp
 |sl b2 o2 l2 c2 WD=>
  simp only[aW,Option.map_eq_some_iff,Prod.mk.injEq] at hsc;obtain⟨cs2,SN,rfl,rfl⟩:=hsc;exact(gN SN).1
 |str s2=>
  simp only[aW] at hsc;cases h1:Nat.beq size 1 with
  |false=>simp[h1] at hsc
  |true=>
   simp only[h1,cond_true,Option.some.injEq,Prod.mk.injEq] at hsc;obtain⟨rfl,rfl⟩:=hsc;rw[Nat.eq_of_beq_eq_true h1];simp
 |_=>simp[aW] at hsc
theorem AH{o:Oper}{c:Call}{s x:Operand}{t u:TypeId}{ts:List TypeId}{e:TypeId}{d:TypeDesc}{size bytes:Nat}{z:AV}{rs:List bH}{v:AV}{op:Cp}
  (he:bJ ρ D n env a)(i:Inv P H0 ρ D h w)(ho:o.op=.call c)(hcb:c.callee=.builtin .append)(hargs:c.args.toList=[s,x])(eJ:c.argTypes.toList=t::u::ts)
  (hu:P.underlying t=some (.slice e))(hd:P.underlying u=some d)(hsrc:oX d=true)(hsz:eN P e=some size)(hb:qV P e=some bytes)(hz:mE P e=some z)
  (hzl:z.cells.length=size)(hc:one (.e (.append size bytes)) [s,x]=some (.e op,rs))(hv:eI op (rs.map env.ev) h=some (v,h')):
  vn P H0 ρ D h w (execOp a.eval o) v h':=by
 obtain⟨hq,hr⟩:=aU hc;simp only[fH.e.injEq] at hq;subst hq;obtain⟨r,q,rfl,h1,h2⟩:=fX hr;have e1:=aG he h1;have e2:=aG he h2;rw[ij o c .append ho hcb,ef hargs (ys:=[real ρ (env.ev r),real ρ (env.ev q)]) (by simp[e1.1,e2.1])];simp only[List.map_cons,List.map_nil,eI] at hv;have Ci:∃ts',c.argTypes=(t::u::ts').toArray:=⟨ts,nw eJ⟩;obtain⟨ts',Ci⟩:=Ci;have CS:∀(x y:Value),Builtin.append_ (t::u::ts').toArray o.type #[x,y]=Builtin.append_ #[t,u] o.type #[x,y]:=by
  intro x y;simp[Builtin.append_]
 rw[Ci];have yz:∀(l:Array Bool) (xs:List Value),builtin .append (t::u::ts').toArray o.type l xs.toArray=(do pure (.value (←Builtin.append_ (t::u::ts').toArray o.type xs.toArray))):=fun _ _=>rfl;rw[yz];rw[show([real ρ (env.ev r),real ρ (env.ev q)]:List Value).toArray=#[real ρ (env.ev r),real ρ (env.ev q)] from rfl,CS];have fin:∀{ρ':cF} {w':World} {v:AV},(Builtin.append_ #[t,u] o.type #[real ρ (env.ev r),real ρ (env.ev q)]).run P w=.ok (real ρ' v) w'→
   (do pure (.value (←Builtin.append_ #[t,u] o.type #[real ρ (env.ev r),real ρ (env.ev q)])):Sem Next).run P w=.ok (.value (real ρ' v)) w':=by
  intro ρ' w' v hh;rw[Sem.run_bind,hh];rfl
 cases hsc:aW size h (env.ev q) with
 |none=>simp[hsc] at hv
 |some km=>
  obtain⟨m,new⟩:=km;simp only[hsc] at hv;have hs:=lT (P:=P) i e2.2 hsc;have hs':=lT (P:=P) (sj i) e2.2 hsc;obtain⟨hlen,Cm,_,hnew⟩:=hs;have Bo:=hs'.2.2.2;cases hfl:bA new with
  |false=>simp[hfl] at hv
  |true=>
   simp only[hfl,cond_true] at hv;cases hr':env.ev r with
   |aL=>
    rw[hr'] at hv;simp only at hv;cases hm0:Nat.beq m 0 with
    |true=>
     have hm:=Nat.eq_of_beq_eq_true hm0;subst hm;simp only[hm0,cond_true,Option.some.injEq,Prod.mk.injEq] at hv;obtain⟨rfl,rfl⟩:=hv;rw[hr'] at fin;refine⟨ρ,w,.inl (fin (ρ':=ρ) (v:=.aL) ?_),by rw[bp];exact i,Ext.refl _ _ _ _,by simp[AV.aY]⟩;exact nk (k:=0) (cap:=0) (base:=none) hu hd hsrc hsz hlen hnew (Nat.le_refl _) (fun _ hh=>by simp at hh) (fun _=>rfl)
    |false=>
     simp only[hm0,cond_false] at hv;cases hg:(Nat.ble (m*bytes) 140737488355328&&Nat.ble m 9223372036854775807) with
     |false=>simp[hg] at hv
     |true=>
      simp only[hg,cond_true,Option.some.injEq,Prod.mk.injEq] at hv;obtain⟨rfl,rfl⟩:=hv;simp only[Bool.and_eq_true] at hg;have g1:=Nat.le_of_ble_eq_true hg.1;have g2:=Nat.le_of_ble_eq_true hg.2;have T9:m≠0:=by intro e;rw[e] at hm0;simp at hm0
      obtain⟨nc,hnc,hrun⟩:=sP (P:=P) (w:=w) (ρ:=ρ) (ty:=o.type) (k:=0) (cap:=0) (base:=none) (old:=#[]) hu hd hsrc hsz hb hz hlen (by simp[Builtin.firstCells]) Bo (by omega) (by simpa using g1) (by omega);rw[hr'] at fin;have Bk:=p7 i (w:=w) e size (nc-m) (Builtin.zeroCells (real ρ z).cells (nc-m)) Cm (by rw[jD,dP];simp[aP,hzl]);refine⟨_,_,.inl (fin ?_),Bk.1,Bk.2,?_⟩
      ·simp only[real,hrun,Nat.zero_add];simp only[Array.empty_append,bP,cond_true,Nat.zero_add,Nat.add_zero]
       congr 2
       omega
      ·simp only[AV.aY,grow];exact .inr ⟨Nat.le_refl _,by simp⟩
   |gY wa=>
    rw[hr'] at hv;simp only at hv;cases hm0:Nat.beq m 0 with
    |true=>
     have hm:=Nat.eq_of_beq_eq_true hm0;subst hm;simp only[hm0,cond_true,Option.some.injEq,Prod.mk.injEq] at hv;obtain⟨rfl,rfl⟩:=hv;rw[hr'] at fin;refine⟨ρ,w,.inl (fin (ρ':=ρ) (v:=.gY wa) ?_),by rw[bp];exact i,Ext.refl _ _ _ _,by simp[AV.aY]⟩;have FR:new=[]:=List.length_eq_zero_iff.1 (by rw[og hsc];simp);subst FR;exact nk (k:=0) (cap:=0) (base:=some wa) hu hd hsrc hsz hlen hnew (Nat.le_refl _) (fun ad hh=>by simp[au,storeCells]) (fun hh=>by simp at hh)
    |false=>
     simp only[hm0,cond_false] at hv;cases hg:(Nat.ble (m*bytes) 140737488355328&&Nat.ble m 9223372036854775807) with
     |false=>simp[hg] at hv
     |true=>
      simp only[hg,cond_true,Option.some.injEq,Prod.mk.injEq] at hv;obtain⟨rfl,rfl⟩:=hv;simp only[Bool.and_eq_true] at hg;have g1:=Nat.le_of_ble_eq_true hg.1;have g2:=Nat.le_of_ble_eq_true hg.2;have T9:m≠0:=by intro e;rw[e] at hm0;simp at hm0
      obtain⟨nc,hnc,hrun⟩:=sP (P:=P) (w:=w) (ρ:=ρ) (ty:=o.type) (k:=0) (cap:=0) (base:=some wa) (old:=#[]) hu hd hsrc hsz hb hz hlen (by simp[Builtin.firstCells,loadCells,loadCellsFrom]) Bo (by omega) (by simpa using g1) (by omega);rw[hr'] at fin;have Bk:=p7 i (w:=w) e size (nc-m) (Builtin.zeroCells (real ρ z).cells (nc-m)) Cm (by rw[jD,dP];simp[aP,hzl]);refine⟨_,_,.inl (fin ?_),Bk.1,Bk.2,?_⟩
      ·simp only[real,hrun,Nat.zero_add];simp only[Array.empty_append,bP,cond_true,Nat.zero_add,Nat.add_zero]
       congr 2
       omega
      ·simp only[AV.aY,grow];exact .inr ⟨Nat.le_refl _,by simp⟩
   |sl b o' len cap lZ=>
    rw[hr'] at hv e1;simp only at hv;simp only[AV.aY] at e1;rw[hr'] at fin;cases Co:(Nat.beq m 0&&Nat.ble len cap) with
    |true=>
     simp only[Co,cond_true,Option.some.injEq,Prod.mk.injEq] at hv;obtain⟨rfl,rfl⟩:=hv;simp only[Bool.and_eq_true] at Co;have hm0:=Nat.eq_of_beq_eq_true Co.1;have aaR:=Nat.le_of_ble_eq_true Co.2;subst hm0;have FR:new=[]:=by
      have hll:=og hsc;exact List.length_eq_zero_iff.1 (by rw[hll];simp)
     subst FR;refine⟨ρ,w,.inl (fin (ρ':=ρ) (v:=.sl b o' len cap lZ) ?_),by rw[bp];exact i,Ext.refl _ _ _ _,by rw[bp];simpa[AV.aY] using e1.2⟩;simp only[real];refine nk (m:=0) hu hd hsrc hsz hlen hnew ?_ (fun ad hh=>?_) (fun hh=>by simp at hh)
     ·cases lZ<;>simp<;>omega
     ·simp[au,storeCells]
    |false=>
    simp only[Co,cond_false] at hv;cases hfit:Nat.ble (len+m) cap with
    |true=>
     have hle:=Nat.le_of_ble_eq_true hfit;simp only[hfit,cond_true,Option.map_eq_some_iff,Prod.mk.injEq] at hv;obtain⟨h2,hst,rfl,rfl⟩:=hv;obtain⟨jS,w',hrun,hinv,mH⟩:=oh (P:=P) i e1.2 Cm hst;refine⟨ρ,w',.inl (fin (ρ':=ρ) (v:=.sl b o' (len+m) cap lZ) ?_),by rw[jS,bp];exact hinv,mH,by rw[jS,bp];simpa[AV.aY] using e1.2⟩;simp only[real];refine nk hu hd hsrc hsz hlen hnew ?_ ?_ (fun hh=>by simp at hh)
     ·cases lZ<;>simp<;>omega
     ·intro ad hh;simp only[Option.some.injEq] at hh;subst hh;rw[fe];exact hrun
    |false=>
     have hgt:¬len+m≤cap:=fun hle=>by rw[Nat.ble_eq_true_of_le hle] at hfit;simp at hfit
     simp only[hfit,cond_false] at hv;cases hg:(Nat.ble ((len+m)*bytes) 140737488355328&&Nat.ble (len+m) 9223372036854775807) with
     |false=>simp[hg] at hv
     |true=>
      simp only[hg,cond_true] at hv;simp only[Bool.and_eq_true] at hg;have g1:=Nat.le_of_ble_eq_true hg.1;have g2:=Nat.le_of_ble_eq_true hg.2;cases Bh:h.get b with
      |none=>simp[Bh] at hv
      |some xb=>
       cases xb with
       |cells vs wr es=>
        cases oB:h.aZ b o' (len*size) with
        |none=>simp[Bh,oB] at hv
        |some old=>
         simp only[Bh,oB] at hv;have hlo:=cg (P:=P) i e1.2 oB;have QU:=cg (P:=P) (sj i) e1.2 oB;have hcd:bn D (old++new):=by
          rw[aS];intro y hy;rcases List.mem_append.1 hy with hy|hy
          ·exact(aS D _).1 hlo.2 y hy
          ·exact(aS D _).1 Cm y hy
         have Pg:∀z7,¬len+m≤z7→real ρ (.sl b o' len cap lZ)=.slice (some ⟨(ρ b).bK,(ρ b).off+o',none⟩) len z7→
           ∃nc,len+m≤nc∧(Builtin.append_ #[t,u] o.type #[real ρ (.sl b o' len cap lZ),real ρ (env.ev q)]).run P w=
            .ok (.slice (some ⟨w.heap.size,0,none⟩) (len+m) nc) (w.drew.alloc (.cells ((au ρ (old++new)).toArray++Builtin.zeroCells (real ρ z).cells (nc-(len+m))) e)):=by
          intro z7 hrc Ui;obtain⟨nc,hnc,hrun⟩:=sP (P:=P) (w:=w) (ρ:=ρ) (ty:=o.type) (k:=len) (cap:=z7) (base:=some ⟨(ρ b).bK,(ρ b).off+o',none⟩) (old:=(au ρ old).toArray) hu hd hsrc hsz hb hz hlen
           (by simp only[Builtin.firstCells];exact QU.1) Bo hrc g1 g2
          refine⟨nc,hnc,?_⟩;rw[Ui,hrun,kg]
         have M5:∀(h2:Heap),h2=h.new (.cells (old++new) true size)→∀z7,¬len+m≤z7→real ρ (.sl b o' len cap lZ)=.slice (some ⟨(ρ b).bK,(ρ b).off+o',none⟩) len z7→
           vn P H0 ρ D h w (do pure (.value (←Builtin.append_ #[t,u] o.type #[real ρ (.sl b o' len cap lZ),real ρ (env.ev q)])):Sem Next) (.sl h.next 0 (len+m) (len+m) true) h2:=by
          rintro h2 rfl z7 hrc Ui;obtain⟨nc,hnc,hrun⟩:=Pg z7 hrc Ui;have Bk:=p7 i (w:=w) e size (nc-(len+m)) (Builtin.zeroCells (real ρ z).cells (nc-(len+m))) hcd (by rw[jD,dP];simp[aP,hzl]);refine⟨_,_,.inl (fin ?_),Bk.1,Bk.2,?_⟩
          ·rw[hrun];simp only[real,bP,cond_true,Nat.zero_add,Nat.add_zero]
           congr 2
           omega
          ·simp only[AV.aY,grow];exact .inr ⟨Nat.le_refl _,by simp⟩
         cases lZ with
         |false=>
          simp only[cond_false,Option.some.injEq,Prod.mk.injEq] at hv;obtain⟨rfl,rfl⟩:=hv;exact M5 _ rfl cap hgt (by simp[real])
         |true=>
          simp only[cond_true] at hv;cases hk:(wr&&Nat.beq vs.length (o'+len*size)&&Nat.beq cap len&&Nat.beq es size) with
          |false=>simp[hk] at hv
          |true=>
           simp only[hk,cond_true,Option.some.injEq,Prod.mk.injEq] at hv;obtain⟨rfl,rfl⟩:=hv;simp only[Bool.and_eq_true] at hk;obtain⟨⟨⟨iM,hvl⟩,kY⟩,QN⟩:=hk;have hvl:=Nat.eq_of_beq_eq_true hvl;have kY:=Nat.eq_of_beq_eq_true kY;have QN:=Nat.eq_of_beq_eq_true QN;subst iM kY QN;by_cases hroom:cap+m≤cap+(ρ b).extra
           ·
            obtain⟨c',tt,fr,hcell,q8,kO⟩:=i.bK b _ e1.2 Bh;obtain⟨TJ,YK,SL⟩:=kO rfl;have C2:old.length=cap*es:=(gN oB).1;have hml:new.length=m*es:=by
             cases GP:env.ev q with
             |aL=>rw[GP] at hsc;simp[aW] at hsc;obtain⟨rfl,rfl⟩:=hsc;simp
             |gY wa=>rw[GP] at hsc;simp[aW] at hsc;obtain⟨rfl,rfl⟩:=hsc;simp
             |rest b o j=>rw[GP] at hsc;simp[aW] at hsc;obtain⟨rfl,rfl⟩:=hsc;simp
             |sl b2 o2 l2 c2 WD=>
              rw[GP] at hsc;simp only[aW,Option.map_eq_some_iff,Prod.mk.injEq] at hsc;obtain⟨cs2,SN,rfl,rfl⟩:=hsc;exact(gN SN).1
             |str s2=>
              rw[GP] at hsc;simp only[aW] at hsc;cases h1:Nat.beq es 1 with
              |false=>simp[h1] at hsc
              |true=>
               simp only[h1,cond_true,Option.some.injEq,Prod.mk.injEq] at hsc;obtain⟨rfl,rfl⟩:=hsc;rw[Nat.eq_of_beq_eq_true h1];simp
             |_=>rw[GP] at hsc;simp[aW] at hsc
            have Zt:h.wr b=true:=by simp[Heap.wr,Bh]
            have hlt:=(Array.getElem?_eq_some_iff.1 hcell).1;have s7:m*es≤(ρ b).extra*es:=Nat.mul_le_mul_right _ (by omega);have hme:m*es+((ρ b).extra-m)*es=(ρ b).extra*es:=by rw[←Nat.add_mul];congr 1;omega
            have hst:=jz (P:=P) (ρ b).bK tt fr (au ρ new) ((ρ b).off+(o'+cap*es)) 0 c' w hcell (by
              intro y hy;rw[cG] at hy;obtain⟨x',hx',rfl⟩:=List.mem_map.1 hy;exact vJ (pY hfl x' hx')) (by rw[aP];omega) SL
            have gL:∀y,D y→iz ρ h.next ⟨(ρ b).bK,(ρ b).off+o',(ρ b).extra-m⟩ y=ρ y:=fun y hy=>jR _ _ (by have:=i.lt y hy;omega);have yB:=GG i (w':=setRow w (ρ b).bK (.cells (Heap.splice c'.toList ((ρ b).off+(o'+cap*es)+0) (au ρ new)).toArray tt fr)) (old++new) es ⟨(ρ b).bK,(ρ b).off+o',(ρ b).extra-m⟩ rfl e1.2 Zt (setRow_size _ _ _) (fun r hr=>by rw[di,if_neg hr]) rfl rfl rfl (by
             refine⟨_,tt,fr,by rw[di,if_pos rfl,if_pos hlt],?_,fun _=>⟨TJ,?_,?_⟩⟩
             ·intro j y hj;have Cn:=(aS D _).1 hcd y (List.mem_of_getElem? hj);rw[cu gL y Cn];refine⟨?_,cK (fun _=>.inl) y Cn⟩;rw[List.getElem?_toArray,Heap.eH _ _ _ _ (by simp[aP];omega),aP];by_cases Y6:j<old.length
              ·rw[List.getElem?_append_left Y6] at hj;rw[if_neg (by simp only;omega)];have Eg:=(gN oB).2 j y hj;have Zr:vs[o'+j]?=some y:=by
                simpa[Heap.ck,Heap.row,Bh] using Eg
               have:=(q8 _ _ Zr).1;simpa[Nat.add_assoc] using this
              ·rw[List.getElem?_append_right (by omega)] at hj;have hjl:j-old.length<new.length:=(List.getElem?_eq_some_iff.1 hj).1;rw[if_pos (by simp only;omega),ee];simp only;rw[show(ρ b).off+o'+j-((ρ b).off+(o'+cap*es)+0)=j-old.length by omega,hj];rfl
             ·simp only[List.size_toArray,Heap.dZ,Array.length_toList,List.length_append];omega
             ·simpa[Heap.dZ] using SL)
            refine⟨_,_,.inl (fin (v:=.sl h.next 0 (cap+m) (cap+m) true) ?_),yB.1,yB.2,by simp only[AV.aY,grow];exact .inr ⟨Nat.le_refl _,by simp⟩⟩;have Ip:=nk (P:=P) (ty:=o.type) (base:=some ⟨(ρ b).bK,(ρ b).off+o',none⟩) (k:=cap) (cap:=cap+(ρ b).extra) hu hd hsrc hsz hlen hnew hroom (fun ad hh=>by
             simp only[Option.some.injEq] at hh;subst hh;rw[fe];exact hst) (fun hh=>by simp at hh)
            simp only[real,cond_true,bP,Ip,Nat.add_zero]
            congr 2
            omega
           ·have TX:=MR i e1.2;obtain⟨nc,hnc,hrun⟩:=Pg (cap+(ρ b).extra) hroom (by simp[real]);have Bk:=p7 TX.1 (w:=w) e es (nc-(cap+m)) (Builtin.zeroCells (real ρ z).cells (nc-(cap+m))) hcd (by rw[jD,dP];simp[aP,hzl]);have mH:=Ext.trans i.lt TX.2 (by rw[show(h.del b).next=h.next from rfl,bp];exact Bk.2);refine⟨_,_,.inl (fin ?_),Bk.1,mH,?_⟩
            ·rw[hrun];simp only[real,bP,cond_true,Nat.zero_add,Nat.add_zero,Heap.Jf]
             congr 2
             omega
            ·simp only[AV.aY,grow];exact .inr ⟨Nat.le_refl _,by simp⟩
       |_=>simp[Bh] at hv
   |_=>rw[hr'] at hv;simp at hv
theorem Cu{L:Loc}{vs:List AV}{es:Nat}(hx:eC P H0 ρ D L (.cells vs true es) w):eC P H0 ρ D L (.cells vs false es) w:=by
 obtain⟨c,t,fr,h1,h2,_⟩:=hx;exact⟨c,t,fr,h1,h2,fun hf=>by simp at hf⟩
theorem zg{o:Oper}{c:Call}{s x:Operand}{t u:TypeId}{ts:List TypeId}{e:TypeId}{d:TypeDesc}{size bytes:Nat}{z:AV}{rs:List bH}{v:AV}
  (he:bJ ρ D n env a)(i:Inv P H0 ρ D h w)(ho:o.op=.call c)(hcb:c.callee=.builtin .append)(hargs:c.args.toList=[s,x])(eJ:c.argTypes.toList=t::u::ts)
  (hu:P.underlying t=some (.slice e))(hd:P.underlying u=some d)(hsrc:oX d=true)(hsz:eN P e=some size)(hb:qV P e=some bytes)(hz:mE P e=some z)
  (hzl:z.cells.length=size)(hr:cm [s,x]=some rs)(hv:eK (.append size bytes) (rs.map env.ev) h=some (v,h')):
  vn P H0 ρ D h w (execOp a.eval o) v h':=by
 obtain⟨r,q,rfl,h1,h2⟩:=fX hr;have e1:=aG he h1;have e2:=aG he h2;rw[ij o c .append ho hcb,ef hargs (ys:=[real ρ (env.ev r),real ρ (env.ev q)]) (by simp[e1.1,e2.1])];simp only[List.map_cons,List.map_nil] at hv;have Ci:∃ts',c.argTypes=(t::u::ts').toArray:=⟨ts,nw eJ⟩;obtain⟨ts',Ci⟩:=Ci;have CS:∀(x y:Value),Builtin.append_ (t::u::ts').toArray o.type #[x,y]=Builtin.append_ #[t,u] o.type #[x,y]:=by
  intro x y;simp[Builtin.append_]
 rw[Ci];have yz:∀(l:Array Bool) (xs:List Value),builtin .append (t::u::ts').toArray o.type l xs.toArray=(do pure (.value (←Builtin.append_ (t::u::ts').toArray o.type xs.toArray))):=fun _ _=>rfl;rw[yz];rw[show([real ρ (env.ev r),real ρ (env.ev q)]:List Value).toArray=#[real ρ (env.ev r),real ρ (env.ev q)] from rfl,CS];have fin:∀{ρ':cF} {w':World} {v:AV},(Builtin.append_ #[t,u] o.type #[real ρ (env.ev r),real ρ (env.ev q)]).run P w=.ok (real ρ' v) w'→
   (do pure (.value (←Builtin.append_ #[t,u] o.type #[real ρ (env.ev r),real ρ (env.ev q)])):Sem Next).run P w=.ok (.value (real ρ' v)) w':=by
  intro ρ' w' v hh;rw[Sem.run_bind,hh];rfl
 cases hr':env.ev r with
 |sl b o' len cap lZ=>
  cases lZ with
  |false=>rw[hr'] at hv;simp[eK] at hv
  |true=>
  rw[hr'] at hv e1;simp only[AV.aY] at e1;rw[hr'] at fin;simp only[eK] at hv;cases hsc:aW size h (env.ev q) with
  |none=>simp[hsc] at hv
  |some km=>
   obtain⟨m,new⟩:=km;simp only[hsc] at hv;have hs:=lT (P:=P) i e2.2 hsc;have hs':=lT (P:=P) (sj i) e2.2 hsc;obtain⟨hlen,Cm,_,hnew⟩:=hs;have Bo:=hs'.2.2.2;split at hv
   ·rename_i vs es old Bh oB;cases hk:(bA new&&(!Nat.beq m 0&&Nat.ble ((len+m)*bytes) 140737488355328&&Nat.ble (len+m) 9223372036854775807)&&(Nat.beq vs.length (o'+len*size)&&Nat.beq cap len&&Nat.beq es size)) with
    |false=>simp[hk] at hv
    |true=>
     simp only[hk,cond_true,Option.some.injEq,Prod.mk.injEq] at hv;obtain⟨rfl,rfl⟩:=hv;simp only[Bool.and_eq_true] at hk;obtain⟨⟨hfl,⟨hm0,g1⟩,g2⟩,⟨hvl,kY⟩,QN⟩:=hk;have g1:=Nat.le_of_ble_eq_true g1;have g2:=Nat.le_of_ble_eq_true g2;have hvl:=Nat.eq_of_beq_eq_true hvl;have kY:=Nat.eq_of_beq_eq_true kY;have QN:=Nat.eq_of_beq_eq_true QN;subst kY QN;have T9:m≠0:=by rintro rfl;simp at hm0
     have hlo:=cg (P:=P) i e1.2 oB;have QU:=cg (P:=P) (sj i) e1.2 oB;have hcd:bn D (old++new):=by
      rw[aS];intro y hy;rcases List.mem_append.1 hy with hy|hy
      ·exact(aS D _).1 hlo.2 y hy
      ·exact(aS D _).1 Cm y hy
     obtain⟨c',tt,fr,hcell,q8,kO⟩:=i.bK b _ e1.2 Bh;obtain⟨TJ,YK,SL⟩:=kO rfl;have C2:old.length=cap*es:=(gN oB).1;have hlt:=(Array.getElem?_eq_some_iff.1 hcell).1;have hml:new.length=m*es:=og hsc;by_cases hroom:cap+m≤cap+(ρ b).extra
     ·
      have s7:m*es≤(ρ b).extra*es:=Nat.mul_le_mul_right _ (by omega);have hst:=jz (P:=P) (ρ b).bK tt fr (au ρ new) ((ρ b).off+(o'+cap*es)) 0 c' w hcell (by
        intro y hy;rw[cG] at hy;obtain⟨x',hx',rfl⟩:=List.mem_map.1 hy;exact vJ (pY hfl x' hx')) (by rw[aP];omega) SL
      have gL:∀y,D y→iz ρ h.next ⟨(ρ b).bK,(ρ b).off+o',(ρ b).extra-m⟩ y=ρ y:=fun y hy=>jR _ _ (by have:=i.lt y hy;omega);have yB:=wY i (w':=setRow w (ρ b).bK (.cells (Heap.splice c'.toList ((ρ b).off+(o'+cap*es)+0) (au ρ new)).toArray tt fr)) Bh (old++new) es ⟨(ρ b).bK,(ρ b).off+o',(ρ b).extra-m⟩ (.inl rfl) e1.2
       (Nat.le_of_eq (setRow_size _ _ _).symm) (fun r _ hr=>by rw[di,if_neg hr]) rfl rfl rfl
       (by
        refine⟨_,tt,fr,by rw[di,if_pos rfl,if_pos hlt],?_,fun hf=>by simp at hf⟩;intro j y hj;have hjl:j<vs.length:=(List.getElem?_eq_some_iff.1 hj).1;have hy:=q8 j y hj;rw[cu gL y hy.2];refine⟨?_,cK (fun _=>.inl) y hy.2⟩;rw[List.getElem?_toArray,Heap.eH _ _ _ _ (by simp[aP];omega),if_neg (by omega)];simpa using hy.1)
       (by
        refine⟨_,tt,fr,by rw[di,if_pos rfl,if_pos hlt],?_,fun hf=>by simp at hf⟩;intro j y hj;have Cn:=(aS D _).1 hcd y (List.mem_of_getElem? hj);rw[cu gL y Cn];refine⟨?_,cK (fun _=>.inl) y Cn⟩;rw[List.getElem?_toArray,Heap.eH _ _ _ _ (by simp[aP];omega),aP];by_cases Y6:j<old.length
        ·rw[List.getElem?_append_left Y6] at hj;rw[if_neg (by simp only;omega)];have Eg:=(gN oB).2 j y hj;have Zr:vs[o'+j]?=some y:=by
          simpa[Heap.ck,Heap.row,Bh] using Eg
         have:=(q8 _ _ Zr).1;simpa[Nat.add_assoc] using this
        ·rw[List.getElem?_append_right (by omega)] at hj;have hjl:j-old.length<new.length:=(List.getElem?_eq_some_iff.1 hj).1;rw[if_pos (by simp only;omega),ee];simp only;rw[show(ρ b).off+o'+j-((ρ b).off+(o'+cap*es)+0)=j-old.length by omega,hj];rfl)
      refine⟨_,_,.inl (fin (v:=.sl h.next 0 (cap+m) (cap+m) true) ?_),yB.1,yB.2,by simp only[AV.aY,grow];exact .inr ⟨Nat.le_refl _,by simp⟩⟩;have Ip:=nk (P:=P) (ty:=o.type) (base:=some ⟨(ρ b).bK,(ρ b).off+o',none⟩) (k:=cap) (cap:=cap+(ρ b).extra) hu hd hsrc hsz hlen hnew hroom (fun ad hh=>by
       simp only[Option.some.injEq] at hh;subst hh;rw[fe];exact hst) (fun hh=>by simp at hh)
      simp only[real,cond_true,bP,Ip,Nat.add_zero]
      congr 2
      omega
     ·obtain⟨nc,hnc,hrun⟩:=sP (P:=P) (w:=w) (ρ:=ρ) (ty:=o.type) (k:=cap) (cap:=cap+(ρ b).extra) (base:=some ⟨(ρ b).bK,(ρ b).off+o',none⟩) (old:=(au ρ old).toArray) hu hd hsrc hsz hb hz hlen
       (by simp only[Builtin.firstCells];exact QU.1) Bo hroom g1 g2
      rw[kg] at hrun;have gL:∀y,D y→iz ρ h.next ⟨w.heap.size,0,nc-(cap+m)⟩ y=ρ y:=fun y hy=>jR _ _ (by have:=i.lt y hy;omega);have Ud:=jJ w.drew (.cells ((au ρ (old++new)).toArray++Builtin.zeroCells (real ρ z).cells (nc-(cap+m))) e);have Pv:∀r,r<w.heap.size→(w.drew.alloc (.cells ((au ρ (old++new)).toArray++Builtin.zeroCells (real ρ z).cells (nc-(cap+m))) e)).heap[r]?=w.heap[r]?:=by
       intro r hr;rw[show(w.drew.alloc (.cells ((au ρ (old++new)).toArray++Builtin.zeroCells (real ρ z).cells (nc-(cap+m))) e)).heap=w.heap.push (.cells ((au ρ (old++new)).toArray++Builtin.zeroCells (real ρ z).cells (nc-(cap+m))) e) from rfl,Array.getElem?_push,if_neg (by omega)]
      have yB:=wY i (w':=w.drew.alloc (.cells ((au ρ (old++new)).toArray++Builtin.zeroCells (real ρ z).cells (nc-(cap+m))) e)) Bh (old++new) es ⟨w.heap.size,0,nc-(cap+m)⟩ (.inr (Nat.le_refl _)) e1.2
       (by rw[show(w.drew.alloc (.cells ((au ρ (old++new)).toArray++Builtin.zeroCells (real ρ z).cells (nc-(cap+m))) e)).heap=w.heap.push (.cells ((au ρ (old++new)).toArray++Builtin.zeroCells (real ρ z).cells (nc-(cap+m))) e) from rfl,Array.size_push];omega) (fun r hr _=>Pv r hr) rfl rfl rfl
       (bQ (Cu (i.bK b _ e1.2 Bh)) (fun _=>.inl) gL (Pv _ hlt))
       (by
        refine⟨_,e,(0,0),Ud,?_,fun hf=>by simp at hf⟩;intro j y hj;have hjl:j<(old++new).length:=(List.getElem?_eq_some_iff.1 hj).1;have Cn:=(aS D _).1 hcd y (List.mem_of_getElem? hj);refine⟨?_,cK (fun _=>.inl) y Cn⟩;rw[cu gL y Cn];simp only[Nat.zero_add];rw[Array.getElem?_append_left (by simp[aP];simpa using hjl),List.getElem?_toArray,ee,hj];rfl)
      refine⟨_,_,.inl (fin (v:=.sl h.next 0 (cap+m) (cap+m) true) ?_),yB.1,yB.2,by simp only[AV.aY,grow];exact .inr ⟨Nat.le_refl _,by simp⟩⟩;rw[show real ρ (.sl b o' cap cap true)=.slice (some ⟨(ρ b).bK,(ρ b).off+o',none⟩) cap (cap+(ρ b).extra) by simp[real],hrun];simp only[real,bP,cond_true,Nat.zero_add,Nat.add_zero]
      congr 2
      omega
   ·simp at hv
 |_=>rw[hr'] at hv;simp[eK] at hv
theorem Fx{o:Oper}{c:Call}{s x:Operand}{t:TypeId}{ts:List TypeId}{e:TypeId}{size:Nat}{rs:List bH}{v:AV}{op:Cp}
  (he:bJ ρ D n env a)(i:Inv P H0 ρ D h w)(ho:o.op=.call c)(hcb:c.callee=.builtin .copy)(hargs:c.args.toList=[s,x])(eJ:c.argTypes.toList=t::ts)
  (hu:P.underlying t=some (.slice e))(hsz:eN P e=some size)(hc:one (.e (.copy size)) [s,x]=some (.e op,rs))(hv:eI op (rs.map env.ev) h=some (v,h')):
  vn P H0 ρ D h w (execOp a.eval o) v h':=by
 obtain⟨hq,hr⟩:=aU hc;simp only[fH.e.injEq] at hq;subst hq;obtain⟨r,q,rfl,h1,h2⟩:=fX hr;have e1:=aG he h1;have e2:=aG he h2;rw[ij o c .copy ho hcb,ef hargs (ys:=[real ρ (env.ev r),real ρ (env.ev q)]) (by simp[e1.1,e2.1])];simp only[List.map_cons,List.map_nil,eI] at hv;have yz:∀(l:Array Bool) (xs:List Value),builtin .copy c.argTypes o.type l xs.toArray=(do pure (.value (←Builtin.copy_ c.argTypes o.type xs.toArray))):=fun _ _=>rfl;rw[yz,nw eJ];have Ri:(sizeOf e).run P w=.ok size w:=run_sizeOf hsz;cases hr':env.ev r with
 |aL=>
  rw[hr'] at hv;cases hsc:aW size h (env.ev q) with
  |none=>simp[hsc] at hv
  |some km=>
   obtain⟨m,new⟩:=km;simp only[hsc,Option.some.injEq,Prod.mk.injEq] at hv;obtain⟨rfl,rfl⟩:=hv;obtain⟨hlen,Cm,uo,hnew⟩:=lT (P:=P) i e2.2 hsc;have h0:(Builtin.firstCells size 0 (real ρ (env.ev q))).run P w=.ok #[] w:=by
    cases hq:env.ev q with
    |str s'=>simp[real,Builtin.firstCells]
    |sl b o l c op=>
     have:=uo (fun s e=>by rw[hq] at e;simp at e) 0 (Nat.zero_le _);rw[hq] at this;simpa[au] using this
    |aL=>simp[real,Builtin.firstCells]
    |gY wa=>simp[real,Builtin.firstCells,loadCells,loadCellsFrom]
    |rest b o j=>simp[real,Builtin.firstCells,loadCells,loadCellsFrom]
    |_=>rw[hq] at hsc;simp[aW] at hsc
   refine⟨ρ,w,.inl ?_,by rw[bp];exact i,Ext.refl _ _ _ _,by simp[AV.aY]⟩;simp[Builtin.copy_,run_underlying hu,hlen,Ri,real,Result.andThen,h0,goInt]
 |gY wa=>
  rw[hr'] at hv;cases hsc:aW size h (env.ev q) with
  |none=>simp[hsc] at hv
  |some km=>
   obtain⟨m,new⟩:=km;simp only[hsc,Option.some.injEq,Prod.mk.injEq] at hv;obtain⟨rfl,rfl⟩:=hv;obtain⟨hlen,Cm,uo,hnew⟩:=lT (P:=P) i e2.2 hsc;have h0:(Builtin.firstCells size 0 (real ρ (env.ev q))).run P w=.ok #[] w:=by
    cases hq:env.ev q with
    |str s'=>simp[real,Builtin.firstCells]
    |sl b o l c op=>
     have:=uo (fun s e=>by rw[hq] at e;simp at e) 0 (Nat.zero_le _);rw[hq] at this;simpa[au] using this
    |aL=>simp[real,Builtin.firstCells]
    |gY wa=>simp[real,Builtin.firstCells,loadCells,loadCellsFrom]
    |rest b o j=>simp[real,Builtin.firstCells,loadCells,loadCellsFrom]
    |_=>rw[hq] at hsc;simp[aW] at hsc
   refine⟨ρ,w,.inl ?_,by rw[bp];exact i,Ext.refl _ _ _ _,by simp[AV.aY]⟩;simp[Builtin.copy_,run_underlying hu,hlen,Ri,real,Result.andThen,h0,goInt,storeCells]
 |sl b o' len cap lZ=>
  rw[hr'] at hv e1;simp only[AV.aY] at e1;cases hsc:aW size h (env.ev q) with
  |none=>simp[hsc] at hv
  |some km=>
   obtain⟨m,new⟩:=km;simp only[hsc,Option.map_eq_some_iff,Prod.mk.injEq] at hv;obtain⟨h2,hst,rfl,rfl⟩:=hv;obtain⟨hlen,Cm,uo,hnew⟩:=lT (P:=P) i e2.2 hsc;have htd:bn D (new.take (min m len*size)):=by
    rw[aS] at Cm⊢;exact fun y hy=>Cm y (List.mem_of_mem_take hy)
   have hfc:(Builtin.firstCells size (min m len) (real ρ (env.ev q))).run P w=.ok (au ρ (new.take (min m len*size))).toArray w:=by
    cases hq:env.ev q with
    |str s'=>
     rw[hq] at hsc;simp only[aW] at hsc;cases h1:Nat.beq size 1 with
     |false=>simp[h1] at hsc
     |true=>
      simp only[h1,cond_true,Option.some.injEq,Prod.mk.injEq] at hsc;obtain⟨rfl,rfl⟩:=hsc;have rR:=Nat.eq_of_beq_eq_true h1;subst rR;simp only[Builtin.firstCells,real,Sem.run_pure]
      congr 1
      have:(⟨s'.toArray⟩:ByteArray).extract 0 (min s'.length len)=⟨(s'.take (min s'.length len)).toArray⟩:=by
       apply ByteArray.ext;rw[ByteArray.data_extract];apply Array.ext';simp[List.extract_eq_take_drop]
      rw[this];apply Array.ext';simp[cG,real,Function.comp_def,List.map_take]
    |sl b2 o2 l2 c2 WD=>
     have:=uo (fun s e=>by rw[hq] at e;simp at e) (min m len) (Nat.min_le_left _ _);rw[hq] at this;exact this
    |aL=>
     have:=uo (fun s e=>by rw[hq] at e;simp at e) (min m len) (Nat.min_le_left _ _);rw[hq] at this;exact this
    |gY wa=>
     have:=uo (fun s e=>by rw[hq] at e;simp at e) (min m len) (Nat.min_le_left _ _);rw[hq] at this;exact this
    |rest rb ro rk=>
     have:=uo (fun s e=>by rw[hq] at e;simp at e) (min m len) (Nat.min_le_left _ _);rw[hq] at this;exact this
    |_=>rw[hq] at hsc;simp[aW] at hsc
   obtain⟨jS,w',hrun,hinv,mH⟩:=oh (P:=P) i e1.2 htd hst;refine⟨ρ,w',.inl ?_,by rw[jS,bp];exact hinv,mH,by simp[AV.aY]⟩;simp only[real] at hlen hfc⊢;simp[Builtin.copy_,run_underlying hu,hlen,Ri,Result.andThen,hfc,hrun,goInt];show((min m len:Nat):Int)=min (m:Int) len;omega
 |_=>
  rw[hr'] at hv;cases hsc:aW size h (env.ev q) with
  |none=>simp[hsc] at hv
  |some km=>simp[hsc] at hv
theorem wI{k v:AV}{p:AV×AV}:∀{es:List (AV×AV)},p∈putKey k v es→p=(k,v)∨p∈es
 |[],h=>by simp[putKey] at h;exact .inl h
 |(x,u)::es,h=>by
  simp only[putKey] at h;split at h
  ·rcases List.mem_cons.1 h with h|h
   ·exact .inl h
   ·exact .inr (List.mem_cons_of_mem _ h)
  ·rcases List.mem_cons.1 h with h|h
   ·exact .inr (h▸List.mem_cons_self)
   ·rcases wI h with h|h
    ·exact .inl h
    ·exact .inr (List.mem_cons_of_mem _ h)
theorem Ek(i:Inv P H0 ρ D h w){t kt e:TypeId}{kk:IntKind}(hu:P.underlying t=some (.map kt e))(hk:P.underlying kt=some (.int kk)){b:Nat}{k v:AV}(hb:D b)(Y7:k.aY D)(KN:v.aY D){es:List (AV×AV)}{bs:List Nat}{c:Nat}{r:Option AV}(hg:h.get b=some (.map es bs c))(hf:findKey k es=some r):
  ∃w',(Instr.mapUpdate t (.map (some (ρ b).bK)) (real ρ k) (real ρ v)).run P w=.ok () w'∧Inv P H0 ρ D (h.set b (.map (putKey k v es) (oL r bs c) (xo r c))) w'∧Ext ρ D h w ρ (h.set b (.map (putKey k v es) (oL r bs c) (xo r c))) w':=by
 obtain⟨ms,clock,hcell,ri,s7,vT,xA,uW⟩:=i.bK b _ hb hg;have cP:(getObj (ρ b).bK).run P w=.ok (.map ms clock) w:=by simp[getObj,Sem.run,hcell]
 have iU:∀o',(setObj (ρ b).bK o').run P w=.ok () {w with heap:=w.heap.setIfInBounds (ρ b).bK o'}:=by intro o';simp[setObj,Sem.run,hcell]
 have hlt:=(Array.getElem?_eq_some_iff.1 hcell).1;have iM:h.wr b=true:=by simp[Heap.wr,hg]
 have jr:∀ms' clock',ms'.toList.map (fun m=>(m.key,m.val))=(putKey k v es).map (fun p=>(real ρ p.1,real ρ p.2))→clock'=xo r c→ms'.toList.map (fun m=>m.born)=oL r bs c→
   Inv P H0 ρ D (h.set b (.map (putKey k v es) (oL r bs c) (xo r c))) {w with heap:=w.heap.setIfInBounds (ρ b).bK (.map ms' clock')}∧Ext ρ D h w ρ (h.set b (.map (putKey k v es) (oL r bs c) (xo r c))) {w with heap:=w.heap.setIfInBounds (ρ b).bK (.map ms' clock')}:=by
  intro ms' clock' QW fV hb';refine pJ i hb iM rfl (by simp) (fun r hr=>by simp[Array.getElem?_setIfInBounds,Ne.symm hr]) rfl rfl rfl ?_;refine⟨ms',clock',by simp[Array.getElem?_setIfInBounds,hlt],ri,QW,?_,fV,hb'⟩;intro p hp;rcases wI hp with rfl|hp
  ·exact⟨Y7,KN⟩
  ·exact vT p hp
 have hn:=kV (ρ:=ρ) (kk:=kk) (v:=v) es ms.toList 0 s7 hf;cases r with
 |none=>
  obtain⟨f1,f2⟩:=hn;refine⟨_,?_,jr (ms.push {key:=real ρ k,val:=real ρ v,born:=clock}) (clock+1) ?_ (by rw[xA];rfl) (by simp[uW,xA,oL])⟩
  ·simp only[Instr.mapUpdate,Sem.run_bind,run_underlying hu,Result.andThen,cP,rJ hk,run_findKey hk f1,iU]
  ·rw[f2];simp[s7]
 |some u=>
  obtain⟨j,f1,f2,-,⟨kd,kn,hkn⟩,f3⟩:=hn;have hj:((ms[j]?).map (·.key)).getD (real ρ k)=real ρ k:=by
   rw[Array.getElem?_toList] at f2;rw[f2];rfl
  refine⟨_,?_,jr (ms.modify j fun e=>{e with key:=real ρ k,val:=real ρ v}) clock ?_ (by rw[xA];rfl) ?_⟩
  ·have hst:(Instr.keyThatStays (real ρ k) (real ρ k)).run P w=.ok (real ρ k) w:=by
    subst hkn;simp[Instr.keyThatStays,real,Instr.sameBits]
   simp only[Instr.mapUpdate,Sem.run_bind,run_underlying hu,Result.andThen,cP,rJ hk,run_findKey hk f1,Nat.zero_add,hj,hst,iU]
  ·rw[←f3];simp
  ·show _=bs;rw[←uW];apply List.ext_getElem?;intro n;simp only[Array.toList_modify,List.getElem?_map,List.getElem?_modify];split<;>cases(ms.toList)[n]?<;>rfl
theorem A0{kk:IntKind}{k:AV}:∀(es:List (AV×AV)) (bs:List Nat) (ms:List MapEntry) (i:Nat) {r:Option AV},ms.map (fun m=>(m.key,m.val))=es.map (fun p=>(real ρ p.1,real ρ p.2))→ms.map (fun m=>m.born)=bs→findKey k es=some r→
  match r with
  |none=>Instr.findNow (.int kk) (real ρ k) ms i=some none∧delKey k es=es∧mW k es bs=bs
  |some _=>∃j u',Instr.findNow (.int kk) (real ρ k) ms i=some (some (i+j,u'))∧j<ms.length∧(ms.eraseIdx j).map (fun m=>(m.key,m.val))=(delKey k es).map (fun p=>(real ρ p.1,real ρ p.2))∧(ms.eraseIdx j).map (fun m=>m.born)=mW k es bs
 |[],bs,ms,i,r,hm,hb,hf=>by
  simp only[findKey,Option.some.injEq] at hf;subst hf;have:ms=[]:=by simpa using hm
  subst this;exact⟨rfl,rfl,by simp at hb;subst hb;rfl⟩
 |(x,u)::es,bs,ms,i,r,hm,hb,hf=>by
  cases ms with
  |nil=>simp at hm
  |cons m ms=>
   cases bs with
   |nil=>simp at hb
   |cons b bs=>
   simp only[List.map_cons,List.cons.injEq,Prod.mk.injEq] at hm hb;obtain⟨⟨h1,h2⟩,h3⟩:=hm;simp only[findKey] at hf;split at hf
   ·rename_i he;simp only[Option.some.injEq] at hf;subst hf;have hs:=sR (ρ:=ρ) (kk:=kk) he;refine⟨0,m.val,by simp only[Instr.findNow,h1,hs,Nat.add_zero],by simp,?_,?_⟩
    ·simp only[delKey,he,List.eraseIdx_cons_zero,h3]
    ·simp only[mW,he,List.eraseIdx_cons_zero,hb.2]
   ·rename_i he;have hs:=sR (ρ:=ρ) (kk:=kk) he;have ih:=A0 (kk:=kk) es bs ms (i+1) h3 hb.2 hf;cases r with
    |none=>
     simp only at ih⊢;exact⟨by simp only[Instr.findNow,h1,hs];exact ih.1,by simp only[delKey,he,ih.2.1],by simp only[mW,he,ih.2.2]⟩
    |some u'=>
     simp only at ih⊢;obtain⟨j,v',i1,i2,i3,i4⟩:=ih;refine⟨j+1,v',?_,by simpa using i2,?_,?_⟩
     ·simp only[Instr.findNow,h1,hs];rw[i1]
      congr 3
      omega
     ·simp only[delKey,he,List.eraseIdx_cons_succ,List.map_cons,i3,h1,h2]
     ·simp only[mW,he,List.eraseIdx_cons_succ,List.map_cons,i4,hb.1]
   ·simp at hf
theorem vC{k:AV}{p:AV×AV}:∀{es:List (AV×AV)},p∈delKey k es→p∈es
 |[],h=>by simp[delKey] at h
 |(x,u)::es,h=>by
  simp only[delKey] at h;split at h
  ·exact List.mem_cons_of_mem _ h
  ·rcases List.mem_cons.1 h with h|h
   ·exact h▸List.mem_cons_self
   ·exact List.mem_cons_of_mem _ (vC h)
theorem Ja(i:Inv P H0 ρ D h w){t kt e:TypeId}{ty:TypeId}{ts:List TypeId}{kk:IntKind}(hu:P.underlying t=some (.map kt e))(hk:P.underlying kt=some (.int kk)){b:Nat}{k:AV}(hb:D b){es:List (AV×AV)}{bs:List Nat}{c:Nat}{r:Option AV}(hg:h.get b=some (.map es bs c))(hf:findKey k es=some r):
  ∃w',(Builtin.delete_ (t::ts).toArray ty #[.map (some (ρ b).bK),real ρ k]).run P w=.ok (.tuple #[]) w'∧Inv P H0 ρ D (h.set b (.map (delKey k es) (mW k es bs) c)) w'∧Ext ρ D h w ρ (h.set b (.map (delKey k es) (mW k es bs) c)) w':=by
 obtain⟨ms,clock,hcell,ri,s7,vT,xA,uW⟩:=i.bK b _ hb hg;have cP:(getObj (ρ b).bK).run P w=.ok (.map ms clock) w:=by simp[getObj,Sem.run,hcell]
 have iU:∀o',(setObj (ρ b).bK o').run P w=.ok () {w with heap:=w.heap.setIfInBounds (ρ b).bK o'}:=by intro o';simp[setObj,Sem.run,hcell]
 have hlt:=(Array.getElem?_eq_some_iff.1 hcell).1;have iM:h.wr b=true:=by simp[Heap.wr,hg]
 have jr:∀ms':Array MapEntry,ms'.toList.map (fun m=>(m.key,m.val))=(delKey k es).map (fun p=>(real ρ p.1,real ρ p.2))→ms'.toList.map (fun m=>m.born)=mW k es bs→
   Inv P H0 ρ D (h.set b (.map (delKey k es) (mW k es bs) c)) {w with heap:=w.heap.setIfInBounds (ρ b).bK (.map ms' clock)}∧Ext ρ D h w ρ (h.set b (.map (delKey k es) (mW k es bs) c)) {w with heap:=w.heap.setIfInBounds (ρ b).bK (.map ms' clock)}:=by
  intro ms' QW hb';refine pJ i hb iM rfl (by simp) (fun r hr=>by simp[Array.getElem?_setIfInBounds,Ne.symm hr]) rfl rfl rfl ?_;exact⟨ms',clock,by simp[Array.getElem?_setIfInBounds,hlt],ri,QW,fun p hp=>vT p (vC hp),xA,hb'⟩
 have hn:=A0 (ρ:=ρ) (kk:=kk) es bs ms.toList 0 s7 uW hf;cases r with
 |none=>
  obtain⟨f1,f2,f3⟩:=hn;refine⟨_,?_,jr ms (by rw[f2];exact s7) (by rw[f3];exact uW)⟩;simp only[Builtin.delete_,List.getElem?_toArray,List.getElem?_cons_zero,List.getElem?_cons_succ,Sem.run_bind,run_underlying hu,Result.andThen,cP,rJ hk,run_findKey hk f1,iU,Sem.run_pure]
 |some u=>
  obtain⟨j,u',f1,f2,f3,f4⟩:=hn;have he:(ms.eraseIdxIfInBounds j).toList=ms.toList.eraseIdx j:=by simp[Array.eraseIdxIfInBounds,show j<ms.size from f2]
  refine⟨_,?_,jr (ms.eraseIdxIfInBounds j) (by rw[he];exact f3) (by rw[he];exact f4)⟩;simp only[Builtin.delete_,List.getElem?_toArray,List.getElem?_cons_zero,List.getElem?_cons_succ,Sem.run_bind,run_underlying hu,Result.andThen,cP,rJ hk,run_findKey hk f1,Nat.zero_add,iU,Sem.run_pure]
theorem Fv(i:Inv P H0 ρ D h w){b o len:Nat}{zs:List AV}(hb:D b)(hz:bn D zs)(hs:h.fy b o (dU zs len)=some h'):
  h'.next=h.next∧∃w',(storeCells ⟨(ρ b).bK,(ρ b).off+o,none⟩ (au ρ (dU zs len))).run P w=.ok () w'∧Inv P H0 ρ D h' w'∧Ext ρ D h w ρ h' w':=by
 refine oh i hb ?_ hs;rw[aS];intro x hx;obtain⟨j,hj⟩:=List.mem_iff_getElem?.1 hx;have hl:j<len*zs.length:=by
  have:=(List.getElem?_eq_some_iff.1 hj).1
  rwa [eL] at this
 rw[lX zs len j hl] at hj;exact(aS D zs).1 hz x (List.mem_of_getElem? hj)
theorem Ba(b:Nat):∀(l:List Nat),uN b l=true↔b∈l
 |[]=>by simp[uN]
 |c::l=>by
  simp only[uN];cases hc:Nat.beq c b with
  |true=>have:=Nat.eq_of_beq_eq_true hc;simp[this]
  |false=>
   have:c≠b:=fun e=>by rw[e,Nat.beq_refl] at hc;simp at hc
   simp only[cond_false,Ba b l,List.mem_cons];exact⟨.inr,fun h=>h.resolve_left fun e=>this e.symm⟩
theorem qF{sn:Array Nat}{seen:List Nat}(hs:sn.toList=seen)(b:Nat):sn.contains b=uN b seen:=by
 rw[Bool.eq_iff_iff,Ba,←hs];simp
theorem yH{sn:Array Nat}{seen bs:List Nat}{ms:Array MapEntry}(hs:sn.toList=seen)(hb:ms.toList.map (fun m=>m.born)=bs):(leftOf ms sn).toList.map (fun m=>m.born)=qM seen bs:=by
 have hc:(fun e:MapEntry=>!sn.contains e.born)=fun e=>!uN e.born seen:=funext fun e=>by rw[qF hs]
 unfold leftOf;rw[Array.toList_filter,←hb,hc];generalize ms.toList=l;induction l with
 |nil=>rfl
 |cons m l ih=>
  simp only[List.filter_cons,List.map_cons,qM];cases hh:uN m.born seen with
  |true=>simpa[hh] using ih
  |false=>simpa[hh] using ih
theorem vu{last:Nat}:∀{l:List MapEntry},AE last (l.map fun m=>m.born)=true→l.all (fun x=>decide (x.born≥last))=false
 |[],h=>by simp[AE] at h
 |m::l,h=>by
  simp only[List.map_cons,AE] at h;cases hb:Nat.ble (m.born+1) last with
  |true=>
   have:=Nat.le_of_ble_eq_true hb;have:¬last≤m.born:=by omega
   simp[this]
  |false=>
   rw[hb] at h;simp only[cond_false] at h;simp only[List.all_cons,vu h,Bool.and_false]
theorem uq{sn:Array Nat}{seen bs:List Nat}{last:Nat}{ms:Array MapEntry}(hs:sn.toList=seen)(hb:ms.toList.map (fun m=>m.born)=bs)(h:tK seen last bs=true):
  (!sn.isEmpty&&!ms.isEmpty&&ms.all fun x=>decide (x.born≥last))=false:=by
 unfold tK at h;simp only[Bool.or_eq_true] at h;rcases h with(h|h)|h
 ·have:sn.isEmpty=true:=by rw[←Array.isEmpty_toList,hs];exact h
  simp[this]
 ·have:ms.isEmpty=true:=by
   rw[←Array.isEmpty_toList];rw[List.isEmpty_iff] at h⊢;rw[h] at hb;simpa using hb
  simp[this]
 ·rw[←hb] at h;have:=vu h;rw[Array.all_toList] at this;rw[this];simp
theorem Ge(w:World)(ty:TypeId){r bm since c0:Nat}{seen:Array Nat}{es:Array MapEntry}{clock:Nat}
  (hr:w.heap[r]?=some (.mapIter (some bm) since seen c0))(hb:w.heap[bm]?=some (.map es clock))(ht:(!seen.isEmpty&&!es.isEmpty&&es.all fun x=>decide (x.born≥c0))=false)(hl:leftOf es seen=#[]):
  (Instr.next (.pointer (some ⟨r,0,none⟩)) false ty).run P w=.ok (.tuple #[.bool false]) w:=by
 unfold leftOf at hl;simp only[Instr.next,getObj,Sem.run_bind,Sem.run,hr,hb,Result.andThen,ht,Bool.false_eq_true,if_false,hl];simp[choose,Sem.run,Question.forced]
theorem Gf(w:World)(ty:TypeId){r bm since c0:Nat}{seen:Array Nat}{es:Array MapEntry}{clock:Nat}
  (hr:w.heap[r]?=some (.mapIter (some bm) since seen c0))(hb:w.heap[bm]?=some (.map es clock))(ht:(!seen.isEmpty&&!es.isEmpty&&es.all fun x=>decide (x.born≥c0))=false)
  (hmem:∀x∈(leftOf es seen).toList,x.born<since)(h0:(leftOf es seen).size≠0):
  ∃e∈(leftOf es seen).toList,∃w1:World,(w1=w∨w1=w.drew)∧(Instr.next (.pointer (some ⟨r,0,none⟩)) false ty).run P w=.ok (.tuple #[.bool true,e.key,e.val]) {w1 with heap:=w1.heap.setIfInBounds r (.mapIter (some bm) since (seen.push e.born) clock)}:=by
 simp only[Instr.next,getObj,Sem.run_bind,Sem.run,hr,hb,Result.andThen,ht,Bool.false_eq_true,if_false];unfold leftOf at hmem h0⊢;generalize Array.filter (fun e=>!seen.contains e.born) es=L at hmem h0⊢;have e1:L.filter (fun x=>decide (x.born<since))=L:=Array.filter_eq_self.2 (fun x hx=>by simpa using hmem x (by simpa using hx));have e2:L.filter (fun x=>decide (x.born≥since))=#[]:=by
  rw[Array.filter_eq_empty_iff];intro x hx;have:=hmem x (by simpa using hx);simp;omega
 simp only[e1,e2,Array.append_empty];have hne:L.isEmpty=false:=by simp[Array.isEmpty,h0]
 simp only[hne,Bool.false_eq_true,if_false,Array.empty_append,Array.size_map];have YV:∃(j:Nat) (w1:World),j<L.size∧(w1=w∨w1=w.drew)∧(choose (Question.mapNext L.size)).run P w=.ok j w1:=by
  by_cases hf:L.size≤1
  ·exact⟨0,w,by omega,Or.inl rfl,by simp[choose,Sem.run,Question.forced,hf]⟩
  ·exact⟨_,w.drew,Nat.mod_lt _ (by omega),Or.inr rfl,by
    simp only[choose,Sem.run,Question.forced,decide_eq_true_eq,hf,if_false,Question.cut];rfl⟩
 obtain⟨j,w1,hj,qH,hrun⟩:=YV;refine⟨L[j],by simp,w1,qH,?_⟩;have Bp:w1.heap[r]?=some (.mapIter (some bm) since seen c0):=by rcases qH with rfl|rfl<;>exact hr
 have iU:∀o',(setObj r o').run P w1=.ok () {w1 with heap:=w1.heap.setIfInBounds r o'}:=by intro o';simp[setObj,Sem.run,Bp]
 simp only[hrun,Array.getElem?_map,Array.getElem?_eq_getElem hj,Option.map_some,Sem.run_bind,iU,Result.andThen];rfl
theorem yL{it m since:Nat}{seen:List Nat}{c:Nat}{e:MapEntry}:∀(es:List (AV×AV)) (bs:List Nat) (ms:List MapEntry),ms.map (fun m=>(m.key,m.val))=es.map (fun p=>(real ρ p.1,real ρ p.2))→ms.map (fun m=>m.born)=bs→
  (∀p∈es,p.1.aY D∧p.2.aY D)→e∈ms→uN e.born seen=false→
  ∃k u,(AV.cq [.bool true,k,u],h.set it (.iter m since (seen++[e.born]) c))∈BE h it m since seen c bs es∧real ρ k=e.key∧real ρ u=e.val∧k.aY D∧u.aY D
 |[],bs,ms,hm,hb,hd,he,hn=>by
  have:ms=[]:=by simpa using hm
  subst this;simp at he
 |(k,u)::es,[],ms,hm,hb,hd,he,hn=>by
  have:ms=[]:=by simpa using hb
  subst this;simp at he
 |(k,u)::es,b::bs,[],hm,hb,hd,he,hn=>by simp at he
 |(k,u)::es,b::bs,x::ms,hm,hb,hd,he,hn=>by
  simp only[List.map_cons,List.cons.injEq,Prod.mk.injEq] at hm hb;simp only[BE];rcases List.mem_cons.1 he with rfl|he
  ·rw[←hb.1,hn];simp only[cond_false];exact⟨k,u,List.mem_cons_self,hm.1.1.symm,hm.1.2.symm,(hd _ List.mem_cons_self).1,(hd _ List.mem_cons_self).2⟩
  ·obtain⟨k',u',g1,g2⟩:=yL (it:=it) (m:=m) (since:=since) (c:=c) es bs ms hm.2 hb.2 (fun p hp=>hd p (List.mem_cons_of_mem _ hp)) he hn;refine⟨k',u',?_,g2⟩;cases uN b seen with
   |true=>exact g1
   |false=>exact List.mem_cons_of_mem _ g1
theorem xW{n b:Nat}:∀{l:List Nat},AD n l=true→b∈l→b<n
 |[],_,hb=>by simp at hb
 |c::l,h,hb=>by
  simp only[AD] at h;cases hc:Nat.ble (c+1) n with
  |false=>rw[hc] at h;simp at h
  |true=>
   rw[hc] at h;rcases List.mem_cons.1 hb with rfl|hb
   ·exact Nat.le_of_ble_eq_true hc
   ·exact xW h hb
theorem BD{o:Oper}{rs:List bH}{cs:List (AV×Heap)}(he:bJ ρ D n env a)(i:Inv P H0 ρ D h w)(hc:aD P o.op=some (.e .next,rs))(hv:yK (rs.map env.ev) h=some cs):
  ∃p∈cs,vn P H0 ρ D h w (execOp a.eval o) p.1 p.2∧p.2.next=h.next:=by
 have key:∃it,o.op=.next it false∧one (.e .next) [it]=some (.e .next,rs):=by
  cases ho:o.op<;>rw[ho] at hc
  case next it s=>
   cases s with
   |true=>simp[aD] at hc
   |false=>exact⟨it,rfl,by simpa only[aD] using hc⟩
  case makeMap t r=>
   exfalso;cases r with
   |none=>simp only[aD] at hc;obtain⟨hq,_⟩:=aU hc;simp at hq
   |some r=>simp[aD] at hc
  case unOp u t x=>
   exfalso;cases u<;>simp only[aD] at hc<;>first
    |(obtain⟨_,_,h2⟩:=bl hc;simp at h2;done)
    |(simp at hc;done)
  all_goals (exfalso;simp only[aD] at hc)
  all_goals repeat' (first
   |(simp only[Option.bind_eq_some_iff] at hc;obtain⟨_,_,hc⟩:=hc)
   |(simp only[Option.map_eq_some_iff] at hc;obtain⟨_,_,hc⟩:=hc;simp at hc;done)
   |(obtain⟨_,_,h2⟩:=bl hc;simp at h2;done)
   |(obtain⟨hq,_⟩:=aU hc;simp at hq;done)
   |(simp at hc;done)
   |(split at hc))
 obtain⟨it,ho,hc⟩:=key;obtain⟨-,hr⟩:=aU hc;obtain⟨r,rfl,h1⟩:=fo hr;have e1:=aG he h1;simp only[List.map_cons,List.map_nil] at hv;have hx:∃it',env.ev r=.ptr it' 0:=by
  cases hx:env.ev r with
  |ptr it' oo=>cases oo with
   |zero=>exact⟨it',rfl⟩
   |succ oo=>rw[hx] at hv;simp[yK] at hv
  |_=>rw[hx] at hv;simp[yK] at hv
 obtain⟨it',hx⟩:=hx;rw[hx] at e1 hv;simp only[AV.aY] at e1;simp only[yK] at hv;split at hv
 ·rename_i m since seen last hg;split at hv
  ·rename_i es bs cl hm;cases hb:(tK seen last bs&&AD since (qM seen bs)&&!(qM seen bs).isEmpty) with
   |false=>simp[hb] at hv
   |true=>
    simp only[hb,cond_true,Option.some.injEq] at hv;subst hv;simp only[Bool.and_eq_true,Bool.not_eq_true'] at hb;obtain⟨ri,Cl,SO,sn,hcell,IN⟩:=i.bK it' _ e1.2 hg;obtain⟨ms,clock,vS,_,s7,vT,xA,uW⟩:=i.bK m _ Cl hm;have hleft:=yH (sn:=sn) (ms:=ms) IN uW;obtain⟨e,hel,w1,hw1,hrun⟩:=Gf (P:=P) w o.type hcell vS (uq IN uW hb.1.1)
     (fun x hx=>xW hb.1.2 (by rw[←hleft];exact List.mem_map_of_mem hx)) (fun h0=>by
      rw[←hleft] at hb;have:(leftOf ms sn).toList=[]:=List.eq_nil_of_length_eq_zero (by simpa using h0);rw[this] at hb;simp at hb)
    have hem:e∈ms.toList∧uN e.born seen=false:=by
     unfold leftOf at hel;rw[Array.toList_filter,List.mem_filter] at hel;refine⟨hel.1,?_⟩;rw[←qF IN];simpa using hel.2
    obtain⟨k,u,g1,g2,g3,g4,g5⟩:=yL (h:=h) (it:=it') (m:=m) (since:=since) (c:=cl) es bs ms.toList s7 uW vT hem.1 hem.2;refine⟨_,g1,?_,rfl⟩;have hlt:=(Array.getElem?_eq_some_iff.1 hcell).1;have FN:w1.heap=w.heap:=by rcases hw1 with rfl|rfl<;>rfl
    have Ul:w1.tape=w.tape:=by rcases hw1 with rfl|rfl<;>rfl
    have Zk:w1.os=w.os:=by rcases hw1 with rfl|rfl<;>rfl
    have Zl:w1.output=w.output:=by rcases hw1 with rfl|rfl<;>rfl
    have hst:=pJ (w':={w1 with heap:=w1.heap.setIfInBounds (ρ it').bK (.mapIter (some (ρ m).bK) since (sn.push e.born) clock)}) i e1.2 (x:=.iter m since (seen++[e.born]) cl) (by simp[Heap.wr,hg]) rfl
     (by simp[FN]) (fun r hr=>by simp[Array.getElem?_setIfInBounds,Ne.symm hr,FN]) Ul Zk Zl ⟨ri,Cl,SO,sn.push e.born,by simp[Array.getElem?_setIfInBounds,FN,hlt,xA],by simp[IN]⟩
    refine⟨ρ,_,.inl ?_,by rw[show(h.set it' (.iter m since (seen++[e.born]) cl)).next=h.next from rfl,bp];exact hst.1,hst.2,by simp only[AV.aY,bn,and_true,true_and];exact⟨cK (fun _=>.inl) _ g4,cK (fun _=>.inl) _ g5⟩⟩;unfold execOp;rw[ho];simp only[e1.1,real,Nat.add_zero,SO,Sem.run_bind];rw[hrun];simp[Result.andThen,au,real,g2,g3]
  ·simp at hv
 ·simp at hv
theorem HP{o:Oper}{op:Cp}{rs:List bH}{v:AV}(he:bJ ρ D n env a)(i:Inv P H0 ρ D h w)(hc:aD P o.op=some (.e op,rs))(hv:eI op (rs.map env.ev) h=some (v,h')):
  vn P H0 ρ D h w (execOp a.eval o) v h':=by
 cases ho:o.op<;>rw[ho] at hc
 case store t x y=>
  simp only[aD,Option.bind_eq_some_iff] at hc;obtain⟨k,hk,hc⟩:=hc;obtain⟨hq,hr⟩:=aU hc;simp only[fH.e.injEq] at hq;subst hq;obtain⟨r,q,rfl,h1,h2⟩:=fX hr;have e1:=aG he h1;have e2:=aG he h2;simp only[List.map_cons,List.map_nil] at hv;cases hr':env.ev r with
  |ptr b o'=>
   rw[hr'] at hv e1;simp only[AV.aY] at e1;simp only[eI] at hv;cases hb:Nat.beq (env.ev q).cells.length k with
   |false=>simp[hb] at hv
   |true=>
    simp only[hb,cond_true,Option.map_eq_some_iff,Prod.mk.injEq] at hv;obtain⟨vQ,hst,rfl,rfl⟩:=hv;have Wy:=Nat.eq_of_beq_eq_true hb;obtain⟨jS,w',hrun,hinv,mH⟩:=oh (P:=P) i e1.2 (jj e2.2) hst;refine⟨ρ,w',.inr ⟨?_,rfl⟩,by rw[jS,bp];exact hinv,mH,by simp[AV.undef,AV.aY,bn]⟩;unfold execOp;rw[ho];simp only[e1.1,e2.1,real,Instr.storeAt,Instr.sureAddr,Sem.run_bind,Sem.run_pure,Result.andThen,storeVar,dP,run_sizeOf hk];rw[if_neg (by simp[aP,Wy])];simp only[hrun,List.toList_toArray]
  |_=>rw[hr'] at hv;simp[eI] at hv
 case mapUpdate t m k x=>
  simp only[aD] at hc;split at hc
  ·rename_i kt e hu;split at hc
   ·rename_i kk hk;obtain⟨hq,hr⟩:=aU hc;simp only[fH.e.injEq] at hq;subst hq;obtain⟨r1,r2,r3,rfl,h1,h2,h3⟩:=pq hr;have e1:=aG he h1;have e2:=aG he h2;have e3:=aG he h3;simp only[List.map_cons,List.map_nil] at hv;cases hr':env.ev r1 with
    |map b=>
     rw[hr'] at hv e1;simp only[AV.aY] at e1;simp only[eI] at hv;split at hv
     ·rename_i es bs c hg;split at hv
      ·rename_i r hf;simp only[Option.some.injEq,Prod.mk.injEq] at hv;obtain⟨rfl,rfl⟩:=hv;obtain⟨w',hrun,hinv,mH⟩:=Ek i hu hk e1.2 e2.2 e3.2 hg hf;refine⟨ρ,w',.inr ⟨?_,rfl⟩,by rw[show(h.set b (.map (putKey (env.ev r2) (env.ev r3) es) (oL r bs c) (xo r c))).next=h.next from rfl,bp];exact hinv,mH,by simp[AV.undef,AV.aY,bn]⟩;unfold execOp;rw[ho];simp only[e1.1,e2.1,e3.1,real,Sem.run_bind,hrun,Result.andThen,Sem.run_pure]
      ·simp at hv
     ·simp at hv
    |_=>rw[hr'] at hv;simp[eI] at hv
   ·exfalso;obtain⟨hq,_⟩:=aU hc;simp at hq
   ·exfalso;obtain⟨hq,_⟩:=aU hc;simp at hq
   ·simp at hc
  ·simp at hc
 case insert t m k x=>
  simp only[aD] at hc;split at hc
  ·rename_i kt e hu;split at hc
   ·rename_i kk hk;obtain⟨hq,hr⟩:=aU hc;simp only[fH.e.injEq] at hq;subst hq;obtain⟨r1,r2,r3,rfl,h1,h2,h3⟩:=pq hr;have e1:=aG he h1;have e2:=aG he h2;have e3:=aG he h3;simp only[List.map_cons,List.map_nil] at hv;cases hr':env.ev r1 with
    |map b=>
     rw[hr'] at hv e1;simp only[AV.aY] at e1;simp only[eI] at hv;split at hv
     ·rename_i es bs c hg;split at hv
      ·rename_i r hf;simp only[Option.some.injEq,Prod.mk.injEq] at hv;obtain⟨rfl,rfl⟩:=hv;obtain⟨w',hrun,hinv,mH⟩:=Ek i hu hk e1.2 e2.2 e3.2 hg hf;refine⟨ρ,w',.inr ⟨?_,rfl⟩,by rw[show(h.set b (.map (putKey (env.ev r2) (env.ev r3) es) (oL r bs c) (xo r c))).next=h.next from rfl,bp];exact hinv,mH,by simp[AV.undef,AV.aY,bn]⟩;unfold execOp;rw[ho];simp only[e1.1,e2.1,e3.1,real,Sem.run_bind,hrun,Result.andThen,Sem.run_pure]
      ·simp at hv
     ·simp at hv
    |_=>rw[hr'] at hv;simp[eI] at hv
   ·exfalso;obtain⟨hq,_⟩:=aU hc;simp at hq
   ·exfalso;obtain⟨hq,_⟩:=aU hc;simp at hq
   ·simp at hc
  ·simp at hc
 case call c=>
  simp only[aD] at hc;split at hc
  ·simp only[Option.map_eq_some_iff] at hc;obtain⟨_,_,hc⟩:=hc;simp at hc
  ·simp only[Option.map_eq_some_iff] at hc;obtain⟨_,_,hc⟩:=hc;simp at hc
  ·rename_i b hcb;split at hc
   ·exfalso;repeat' (first
     |(obtain⟨_,_,h2⟩:=bl hc;simp at h2;done)
     |(simp at hc;done)
     |(split at hc))
   ·exfalso;obtain⟨_,_,h2⟩:=bl hc;simp at h2
   ·exfalso;obtain⟨_,_,h2⟩:=bl hc;simp at h2
   ·rename_i s x t u ts hargs eJ;split at hc
    ·rename_i e d hu hd;split at hc
     ·simp at hc
     ·rename_i hsrc;split at hc
      ·rename_i size bytes z hsz hb hz;split at hc
       ·simp at hc
       ·rename_i hzl;exact AH he i ho hcb hargs eJ hu hd (by simpa using hsrc) hsz hb hz (by simpa using hzl) hc hv
      ·simp at hc
    ·simp at hc
   ·rename_i s x t ts hargs eJ;split at hc
    ·rename_i e hu;simp only[Option.bind_eq_some_iff] at hc;obtain⟨size,hsz,hc⟩:=hc;exact Fx he i ho hcb hargs eJ hu hsz hc hv
    ·simp at hc
   ·rename_i x t hargs eJ;split at hc
    ·rename_i e hu;simp only[Option.bind_eq_some_iff] at hc;obtain⟨z,hz,hc⟩:=hc;obtain⟨hq,hr⟩:=aU hc;simp only[fH.e.injEq] at hq;subst hq;obtain⟨r,rfl,h1⟩:=fo hr;have e1:=aG he h1;have xE:=cO (P:=P) (w:=w) hz ρ D;simp only[List.map_cons,List.map_nil] at hv;rw[ij o c .clear ho hcb,ef hargs (ys:=[real ρ (env.ev r)]) (by simp[e1.1])];have yz:∀(l:Array Bool) (xs:List Value),builtin .clear c.argTypes o.type l xs.toArray=(do pure (.value (←Builtin.clear_ c.argTypes o.type xs.toArray))):=fun _ _=>rfl;rw[yz,nw eJ];cases hr':env.ev r with
     |aL=>
      rw[hr'] at hv;simp only[eI,Option.some.injEq,Prod.mk.injEq] at hv;obtain⟨rfl,rfl⟩:=hv;refine⟨ρ,w,.inl ?_,by rw[bp];exact i,Ext.refl _ _ _ _,by simp[AV.undef,AV.aY,bn]⟩;simp[Builtin.clear_,run_underlying hu,real,Result.andThen,AV.undef,au]
     |sl b o' len cap op=>
      rw[hr'] at hv e1;simp only[AV.aY] at e1;simp only[eI,Option.map_eq_some_iff,Prod.mk.injEq] at hv;obtain⟨h2,hst,rfl,rfl⟩:=hv;obtain⟨jS,w',hrun,hinv,mH⟩:=Fv (P:=P) i e1.2 (jj xE.2) hst;refine⟨ρ,w',.inl ?_,by rw[jS,bp];exact hinv,mH,by simp[AV.undef,AV.aY,bn]⟩;have hz2:(Builtin.zeroCells (real ρ z).cells len).toList=au ρ (dU z.cells len):=by
       rw[Builtin.zeroCells,dP,pN ρ z.cells len _ (by simp[aP])]
      cases len with
      |zero=>
       have hw:w'=w:=by
        simp[dU,au,storeCells] at hrun;exact hrun.symm
       subst hw;simp[Builtin.clear_,run_underlying hu,real,Result.andThen,AV.undef,au]
      |succ len=>
       simp only[Builtin.clear_,real,List.getElem?_toArray,List.getElem?_cons_zero,Sem.run_bind,run_underlying hu,Result.andThen,xE.1,hz2,hrun,Sem.run_pure,AV.undef,au]
     |_=>rw[hr'] at hv;simp[eI] at hv
    ·exfalso;obtain⟨hq,_⟩:=aU hc;simp at hq
    ·simp at hc
   ·rename_i m k t ts hargs eJ;split at hc
    ·rename_i kt e hu;split at hc
     ·rename_i kk hk;obtain⟨hq,hr⟩:=aU hc;simp only[fH.e.injEq] at hq;subst hq;obtain⟨r1,r2,rfl,h1,h2⟩:=fX hr;have e1:=aG he h1;have e2:=aG he h2;simp only[List.map_cons,List.map_nil] at hv;rw[ij o c .delete ho hcb,ef hargs (ys:=[real ρ (env.ev r1),real ρ (env.ev r2)]) (by simp[e1.1,e2.1])];have yz:∀(l:Array Bool) (xs:List Value),builtin .delete c.argTypes o.type l xs.toArray=(do pure (.value (←Builtin.delete_ c.argTypes o.type xs.toArray))):=fun _ _=>rfl;rw[yz,nw eJ];cases hr':env.ev r1 with
      |map b=>
       rw[hr'] at hv e1;simp only[AV.aY] at e1;simp only[eI] at hv;split at hv
       ·rename_i es bs cl hg;split at hv
        ·rename_i q hf;simp only[Option.some.injEq,Prod.mk.injEq] at hv;obtain⟨rfl,rfl⟩:=hv;obtain⟨w',hrun,hinv,mH⟩:=Ja (ty:=o.type) (ts:=ts) i hu hk e1.2 hg hf;refine⟨ρ,w',.inl ?_,by rw[show(h.set b (.map (delKey (env.ev r2) es) (mW (env.ev r2) es bs) cl)).next=h.next from rfl,bp];exact hinv,mH,by simp[AV.aY,bn]⟩;simp only[real,Sem.run_bind];rw[hrun];simp[Result.andThen,au]
        ·simp at hv
       ·simp at hv
      |_=>rw[hr'] at hv;simp[eI] at hv
     ·simp at hc
    ·simp at hc
   ·simp at hc
 case range t x=>
  simp only[aD] at hc;split at hc
  ·rename_i kt e hu;obtain⟨hq,hr⟩:=aU hc;simp only[fH.e.injEq] at hq;subst hq;obtain⟨r,rfl,h1⟩:=fo hr;have e1:=aG he h1;simp only[List.map_cons,List.map_nil] at hv;cases hr':env.ev r with
   |map b=>
    rw[hr'] at hv e1;simp only[AV.aY] at e1;simp only[eI] at hv;split at hv
    ·rename_i es bs cl hg;simp only[Option.some.injEq,Prod.mk.injEq] at hv;obtain⟨rfl,rfl⟩:=hv;obtain⟨ms,clock,hcell,ri,s7,vT,xA,uW⟩:=i.bK b _ e1.2 hg;have hlt:=i.lt b e1.2;have hst:=pH (w':=w.alloc (.mapIter (some (ρ b).bK) clock #[] clock)) i (.iter b cl [] cl) 0 (.mapIter (some (ρ b).bK) clock #[] clock) rfl rfl rfl rfl
      ⟨i.low,.inl e1.2,rfl,#[],by rw[jR _ _ (by omega),←xA];exact jJ _ _,rfl⟩
     refine⟨_,_,.inl ?_,hst.1,hst.2,by simp[AV.aY,grow]⟩;unfold execOp;rw[ho];simp only[e1.1,real,Instr.range,Sem.run_bind,run_underlying hu,Result.andThen,getObj,Sem.run,hcell,newObj,bP];rfl
    ·simp at hv
   |_=>rw[hr'] at hv;simp[eI] at hv
  ·simp at hc
 case next it s=>
  cases s with
  |true=>simp[aD] at hc
  |false=>
   simp only[aD] at hc;obtain⟨hq,hr⟩:=aU hc;simp only[fH.e.injEq] at hq;subst hq;obtain⟨r,rfl,h1⟩:=fo hr;have e1:=aG he h1;simp only[List.map_cons,List.map_nil] at hv;have hx:∃it',env.ev r=.ptr it' 0:=by
    cases hx:env.ev r with
    |ptr it' oo=>cases oo with
     |zero=>exact⟨it',rfl⟩
     |succ oo=>rw[hx] at hv;simp[eI] at hv
    |_=>rw[hx] at hv;simp[eI] at hv
   obtain⟨it',hx⟩:=hx;rw[hx] at e1 hv;simp only[AV.aY] at e1;simp only[eI] at hv;split at hv
   ·rename_i m since seen last hg;split at hv
    ·rename_i es bs cl hm;cases hb:(tK seen last bs&&(qM seen bs).isEmpty) with
     |false=>simp[hb] at hv
     |true=>
      simp only[hb,cond_true,Option.some.injEq,Prod.mk.injEq] at hv;obtain⟨rfl,rfl⟩:=hv;simp only[Bool.and_eq_true] at hb;obtain⟨_,Cl,SO,sn,hcell,IN⟩:=i.bK it' _ e1.2 hg;obtain⟨ms,clock,vS,_,s7,vT,xA,uW⟩:=i.bK m _ Cl hm;have hst:=Ko i e1.2;refine⟨ρ,w,.inl ?_,by rw[show(h.del it').next=h.next from rfl,bp];exact hst.1,hst.2,by simp[AV.aY,bn]⟩;unfold execOp;rw[ho];have hl:leftOf ms sn=#[]:=by
       have:=yH (sn:=sn) IN uW;rw[List.isEmpty_iff.1 hb.2] at this;exact Array.eq_empty_of_size_eq_zero (by simpa using congrArg List.length this)
      have:=Ge (P:=P) w o.type hcell vS (uq IN uW hb.1) hl;simp only[e1.1,real,Nat.add_zero,SO,Sem.run_bind];rw[this];simp[Result.andThen,au,real]
    ·simp at hv
   ·simp at hv
 case unOp u t x=>
  exfalso;cases u<;>simp only[aD] at hc<;>first
   |(obtain⟨_,_,h2⟩:=bl hc;simp at h2;done)
   |(simp at hc;done)
 case makeMap t r=>
  exfalso;cases r with
  |none=>simp only[aD] at hc;obtain⟨hq,_⟩:=aU hc;simp at hq
  |some r=>simp[aD] at hc
 all_goals (exfalso;simp only[aD] at hc)
 all_goals repeat' (first
  |(simp only[Option.bind_eq_some_iff] at hc;obtain⟨_,_,hc⟩:=hc)
  |(simp only[Option.map_eq_some_iff] at hc;obtain⟨_,_,hc⟩:=hc;simp at hc;done)
  |(obtain⟨_,_,h2⟩:=bl hc;simp at h2;done)
  |(simp at hc;done)
  |(split at hc))
theorem HQ{o:Oper}{op:Cp}{rs:List bH}{v:AV}(he:bJ ρ D n env a)(i:Inv P H0 ρ D h w)(hc:aD P o.op=some (.e op,rs))(hv:eK op (rs.map env.ev) h=some (v,h')):
  vn P H0 ρ D h w (execOp a.eval o) v h':=by
 cases op with
 |append size bytes=>
  cases ho:o.op
  case call c=>
   rw[ho] at hc;simp only[aD] at hc;split at hc
   ·simp only[Option.map_eq_some_iff] at hc;obtain⟨_,_,hc⟩:=hc;simp at hc
   ·simp only[Option.map_eq_some_iff] at hc;obtain⟨_,_,hc⟩:=hc;simp at hc
   ·rename_i b hcb;split at hc
    ·exfalso;repeat' (first
      |(obtain⟨_,_,h2⟩:=bl hc;simp at h2;done)
      |(simp at hc;done)
      |(split at hc))
    ·exfalso;obtain⟨_,_,h2⟩:=bl hc;simp at h2
    ·exfalso;obtain⟨_,_,h2⟩:=bl hc;simp at h2
    ·rename_i s x t u ts hargs eJ;split at hc
     ·rename_i e d hu hd;split at hc
      ·simp at hc
      ·rename_i hsrc;split at hc
       ·rename_i size' bytes' z hsz hb hz;split at hc
        ·simp at hc
        ·rename_i hzl;obtain⟨hq,hr⟩:=aU hc;simp only[fH.e.injEq,Cp.append.injEq] at hq;obtain⟨rfl,rfl⟩:=hq;exact zg he i ho hcb hargs eJ hu hd (by simpa using hsrc) hsz hb hz (by simpa using hzl) hr hv
       ·simp at hc
     ·simp at hc
    ·exfalso;repeat' (first
      |(simp only[Option.bind_eq_some_iff] at hc;obtain⟨_,_,hc⟩:=hc)
      |(obtain⟨hq,_⟩:=aU hc;simp at hq;done)
      |(simp at hc;done)
      |(split at hc))
    ·exfalso;repeat' (first
      |(simp only[Option.bind_eq_some_iff] at hc;obtain⟨_,_,hc⟩:=hc)
      |(obtain⟨hq,_⟩:=aU hc;simp at hq;done)
      |(simp at hc;done)
      |(split at hc))
    ·exfalso;repeat' (first
      |(simp only[Option.bind_eq_some_iff] at hc;obtain⟨_,_,hc⟩:=hc)
      |(obtain⟨hq,_⟩:=aU hc;simp at hq;done)
      |(simp at hc;done)
      |(split at hc))
    ·simp at hc
  case unOp u t x=>
   exfalso;rw[ho] at hc;cases u<;>simp only[aD] at hc<;>first
    |(obtain⟨_,_,h2⟩:=bl hc;simp at h2;done)
    |(simp at hc;done)
  case next it s=>
   exfalso;rw[ho] at hc;cases s with
   |true=>simp[aD] at hc
   |false=>simp only[aD] at hc;obtain⟨hq,_⟩:=aU hc;simp at hq
  case makeMap t r=>
   exfalso;rw[ho] at hc;cases r with
   |none=>simp only[aD] at hc;obtain⟨hq,_⟩:=aU hc;simp at hq
   |some r=>simp[aD] at hc
  all_goals (exfalso;rw[ho] at hc;simp only[aD] at hc)
  all_goals repeat' (first
   |(simp only[Option.bind_eq_some_iff] at hc;obtain⟨_,_,hc⟩:=hc)
   |(simp only[Option.map_eq_some_iff] at hc;obtain⟨_,_,hc⟩:=hc;simp at hc;done)
   |(obtain⟨_,_,h2⟩:=bl hc;simp at h2;done)
   |(obtain⟨hq,_⟩:=aU hc;simp at hq;done)
   |(simp at hc;done)
   |(split at hc))
 |_=>simp[eK] at hv
end
end Ads
end Go.Proofs.YtnlcabhfkpafmaaGreat
