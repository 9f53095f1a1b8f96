/-
  Operations that make memory, read it, write it.
  Operations that read memory or write it.
  Operations that write memory: store, append, copy.
  Operations that write memory, together.
-/
import Derived.Laws.BytesString
import Derived.Test.YtnlcabhfkpafmaaGreatAdsPureX
set_option linter.unusedSimpArgs false
set_option linter.unusedVariables false
namespace Go.Proofs.YtnlcabhfkpafmaaGreat
namespace Ads
section
variable {P:Program} {H0:Nat} {ρ:cI} {D:Dom} {h:Heap} {w:World} {n:Nat} {env:Env} {a:Act}
theorem aT{q op:fZ}{xs:List Operand}{rs:List bE}(h:one q xs=some (op,rs)):q=op∧cn xs=some rs:=by
 obtain⟨rs',h1,h2⟩:=bg h;simp only[Prod.mk.injEq] at h2;exact⟨h2.1.symm,by rw[h2.2];exact h1⟩
theorem ET{k:Nat}(h:k≤9223372036854775807):IntKind.i64.wrap (k:Int)=k:=IntWalk.i64_in _ (by omega)
theorem eW(z:List AV):∀k,(dH z k).length=k*z.length
 |0=>by simp[dH]
 |k+1=>by simp[dH,eW z k,Nat.succ_mul];omega
theorem mE(z:List AV):∀(k i:Nat),i<k*z.length→(dH z k)[i]?=z[i%z.length]?
 |0,i,h=>by simp at h
 |k+1,i,h=>by
  simp only[dH];by_cases hi:i<z.length
  ·rw[List.getElem?_append_left hi,Nat.mod_eq_of_lt hi]
  ·rw[List.getElem?_append_right (by omega),mE z k _ (by rw[Nat.succ_mul] at h;omega)]
   congr 1
   rw[Nat.mod_eq_sub_mod (by omega:i≥z.length)]
theorem qh(ρ:cI)(z:List AV)(k m:Nat)(hm:m=k*z.length):(Array.range m).map (fun i=>(an ρ z).toArray[i%(an ρ z).toArray.size]!)=(an ρ (dH z k)).toArray:=by
 subst hm;apply Array.ext_getElem?;intro i;rw[Array.getElem?_map,show(an ρ (dH z k)).toArray[i]?=(an ρ (dH z k))[i]? from List.getElem?_toArray,eA];by_cases hi:i<k*z.length
 ·have hz:0<z.length:=by
   rcases Nat.eq_zero_or_pos z.length with e|e
   ·rw[e] at hi;simp at hi
   ·exact e
  have hlt:i%z.length<z.length:=Nat.mod_lt _ hz;rw[mE z k i hi];have hr:(Array.range (k*z.length))[i]?=some i:=by simp[hi]
  rw[hr];simp only[Option.map_some,List.size_toArray,aN];rw[List.getElem?_eq_getElem hlt];simp only[Option.map_some,Option.some.injEq];have h2:(an ρ z)[i%z.length]?=some (real ρ z[i%z.length]):=by rw[eA,List.getElem?_eq_getElem hlt];rfl
  rw[List.getElem!_toArray,List.getElem!_eq_getElem?_getD,h2];rfl
 ·rw[List.getElem?_eq_none (by rw[eW];omega)];have hr:(Array.range (k*z.length))[i]?=none:=by simp;omega
  rw[hr];rfl
theorem jW(w:World)(o:Obj):(w.alloc o).heap[w.heap.size]?=some o:=by
 show(w.heap.push o)[w.heap.size]?=some o;simp
theorem MW{ρ':cI}{D':Dom}{cs:List AV}(hd:bh D' cs)(t:TypeId)(rO:H0≤w.heap.size):
  eL P H0 ρ' D' ⟨w.heap.size,0,0⟩ (.cells cs true 0) (w.alloc (.cells (an ρ' cs).toArray t)):=by
 refine⟨(an ρ' cs).toArray,t,(0,0),jW _ _,?_,fun _=>⟨rO,by simp[aN],fun i h1 h2=>by simp at h2⟩⟩;intro i v hv;refine⟨?_,(aP D' cs).1 hd v (List.mem_of_getElem? hv)⟩;simp[eA,hv]
def Made(P:Program)(H0:Nat)(ρ:cI)(D:Dom)(w:World)(s:Sem Next)(x:ck)(f:Nat→AV):Prop:=
 ∃obj:Obj,(∀(b:Nat) (ρ':cI),ρ' b=⟨w.heap.size,0,0⟩→s.run P w=.ok (.value (real ρ' (f b))) (w.alloc obj))∧
  (∀(ρ':cI) (D':Dom),(∀b,D b→D' b)→(∀b,D b→ρ' b=ρ b)→H0≤w.heap.size→eL P H0 ρ' D' ⟨w.heap.size,0,0⟩ x (w.alloc obj))∧
  (∀(b:Nat) (D':Dom),D' b→(f b).aV D')
theorem sR{s:Sem Next}{cs:List AV}{f:Nat→AV}(t:TypeId)(hd:bh D cs)
  (hs:∀(b:Nat) (ρ':cI),ρ' b=⟨w.heap.size,0,0⟩→s.run P w=.ok (.value (real ρ' (f b))) (w.alloc (.cells (an ρ cs).toArray t)))
  (hf:∀(b:Nat) (D':Dom),D' b→(f b).aV D'):Made P H0 ρ D w s (.cells cs true 0) f:=by
 refine⟨_,hs,?_,hf⟩;intro ρ' D' h1 h2 hl;rw[←eO h2 cs hd];exact MW (jV h1 cs hd) t hl
theorem gY(t:TypeId)(c:Array Value):(newRow t c).run P w=.ok ⟨w.heap.size,0,none⟩ (w.alloc (.cells c t)):=by
 simp[newRow,Result.andThen]
theorem AO{o:Oper}{op:SK}{rs:List bE}{x:ck}{f:Nat→AV}(he:bI ρ D n env a)(hc:az P o.op=some (.a op,rs))(hv:aI op (rs.map env.ev)=some (x,f)):
  Made P H0 ρ D w (execOp a.eval o) x f:=by
 cases ho:o.op<;>rw[ho] at hc
 case alloc t=>
  simp only[az,Option.bind_eq_some_iff] at hc;obtain⟨z,hz,hc⟩:=hc;obtain⟨hq,hr⟩:=aT hc;simp only[fZ.a.injEq] at hq;subst hq;simp[cn] at hr;subst hr;simp only[List.map_nil,aI,Option.some.injEq,Prod.mk.injEq] at hv;obtain⟨rfl,rfl⟩:=hv;have xS:=cS (P:=P) (w:=w) hz ρ D;refine sR t (jo xS.2) ?_ (fun b D' hb=>by simpa[AV.aV] using hb);intro b ρ' hb;unfold execOp;rw[ho];simp only[Instr.alloc,newVar,Sem.run_bind,xS.1,Result.andThen,gY,Sem.run_pure,real,hb,dU]
 case box t y=>
  simp only[az] at hc;obtain⟨hq,hr⟩:=aT hc;simp only[fZ.a.injEq] at hq;subst hq;obtain⟨r,rfl,h1⟩:=fu hr;have e1:=aD he h1;simp only[List.map_cons,List.map_nil,aI,Option.some.injEq,Prod.mk.injEq] at hv;obtain⟨rfl,rfl⟩:=hv;refine sR t (jo e1.2) ?_ (fun b D' hb=>by simpa[AV.aV] using hb);intro b ρ' hb;unfold execOp;rw[ho];simp only[Instr.box,newVar,Sem.run_bind,Result.andThen,gY,Sem.run_pure,real,hb,e1.1,dU]
 case buildSlice t len ps=>
  simp only[az] at hc;split at hc
  ·rename_i e hu;split at hc
   ·rename_i k z hk hz;split at hc
    ·simp at hc
    ·rename_i oO;simp only[Option.map_eq_some_iff] at hc;obtain⟨⟨Sm,as⟩,hps,hq⟩:=hc;simp only[Prod.mk.injEq,fZ.a.injEq] at hq;obtain⟨rfl,rfl⟩:=hq;simp only[Bool.or_eq_true,decide_eq_true_eq,bne_iff_ne,ne_eq,not_or,Decidable.not_not] at oO;obtain⟨ZI,Gw⟩:=oO;have hp:=uk he hps;simp only[aI] at hv;split at hv
     ·rename_i cs hf;simp only[Option.some.injEq,Prod.mk.injEq] at hv;obtain⟨rfl,rfl⟩:=hv;have xS:=cS (P:=P) (w:=w) hz ρ D;have hzd:bh D (dH z.cells len):=by
       rw[aP];intro v AL;obtain⟨j,hj⟩:=List.mem_iff_getElem?.1 AL;have hjl:j<len*z.cells.length:=by
        have:=(List.getElem?_eq_some_iff.1 hj).1;rw[eW] at this;exact this
       rw[mE _ _ _ hjl] at hj;exact(aP D _).1 (jo xS.2) v (List.mem_of_getElem? hj)
      have kO:(ps.toList.map (·.1))=Sm.map (·.1):=by
       have:=hp.1;have h2:(ps.toList.map (·.1)).map (fun i=>(some (i,0):Option (Nat×Nat)))=Sm.map some:=this;have h3:=congrArg (List.map (fun o:Option (Nat×Nat)=>(o.getD (0,0)).1)) h2;simpa[Function.comp_def] using h3
      have Jl:=tT (ρ:=ρ) (D:=D) (pl:=fun i=>some (i*k,k)) (idx:=ps.toList.map (·.1)) (by
       rw[kO];simp[Function.comp_def]) hf hp.2.2 hzd
      refine sR e Jl.2.1 ?_ (fun b D' hb=>by simpa[AV.aV] using hb);intro b ρ' hb;unfold execOp;rw[ho];have JA:(ps.map fun(i,x)=>(i,a.eval x)).toList=(ps.toList.map (·.1)).zip (an ρ (as.map env.ev)):=by
       rw[←hp.2.1,←oK];simp
      simp only[Instr.buildSlice,Sem.run_bind,run_underlying hu,Result.andThen,run_sizeOf hk];rw[if_neg (by omega)];by_cases h0:len*k=0
      ·have yO:dH z.cells len=[]:=List.length_eq_zero_iff.1 (by rw[eW,Gw];exact h0);have UE:=Jl.1;rw[yO,←JA] at UE;rw[if_pos h0];have QZ:∀g:Nat→Value,(Array.range (len*k)).map g=(an ρ []).toArray:=by intro g;simp[h0,an]
       simp only[Sem.run_bind,Result.andThen,Sem.run_pure,QZ];rw[UE];simp[gY,real,hb,Result.andThen]
      ·have UE:=Jl.1;rw[←JA,←qh ρ z.cells len (len*k) (by rw[Gw])] at UE;rw[if_neg h0];simp only[Sem.run_bind,xS.1,Result.andThen,Sem.run_pure,dU];rw[UE];simp[gY,real,hb,Result.andThen]
     ·simp at hv
   ·simp at hc
  ·simp at hc
 case makeSlice t l c=>
  simp only[az] at hc;split at hc
  ·rename_i e hu;split at hc
   ·rename_i k TL z hk hbt hz;split at hc
    ·simp at hc
    ·rename_i oO;simp only[bne_iff_ne,ne_eq,Decidable.not_not] at oO;obtain⟨hq,hr⟩:=aT hc;simp only[fZ.a.injEq] at hq;subst hq;obtain⟨r,s,rfl,h1,h2⟩:=gx hr;have e1:=aD he h1;have e2:=aD he h2;simp only[List.map_cons,List.map_nil,aI] at hv;split at hv
     ·rename_i lv cv hl Uw;cases hg:(Nat.ble lv cv&&Nat.ble (TL*cv) 140737488355328&&Nat.ble cv 9223372036854775807) with
      |false=>simp[hg] at hv
      |true=>
       simp only[hg,cond_true,Option.some.injEq,Prod.mk.injEq] at hv;obtain⟨rfl,rfl⟩:=hv;simp only[Bool.and_eq_true] at hg;have g1:=Nat.le_of_ble_eq_true hg.1.1;have g2:=Nat.le_of_ble_eq_true hg.1.2;have g3:=Nat.le_of_ble_eq_true hg.2;obtain⟨k1,hl'⟩:=jX hl;obtain⟨k2,ie⟩:=jX Uw;have xS:=cS (P:=P) (w:=w) hz ρ D;have hzd:bh D (dH z.cells cv):=by
        rw[aP];intro v AL;obtain⟨j,hj⟩:=List.mem_iff_getElem?.1 AL;have hjl:j<cv*z.cells.length:=by
         have:=(List.getElem?_eq_some_iff.1 hj).1;rw[eW] at this;exact this
        rw[mE _ _ _ hjl] at hj;exact(aP D _).1 (jo xS.2) v (List.mem_of_getElem? hj)
       refine sR e hzd ?_ (fun b D' hb=>by simpa[AV.aV] using hb);intro b ρ' hb;unfold execOp;rw[ho];have UM:∃i,P.info? e=some i∧i.bytes=TL:=by
        simp only[rH,Option.map_eq_some_iff] at hbt;obtain⟨i,hi,hb⟩:=hbt;exact⟨i,hi,hb⟩
       obtain⟨i,hi,Xp⟩:=UM;simp only[e1.1,e2.1,hl',ie,real];simp only[Instr.makeSlice,Sem.run_bind,run_underlying hu,Result.andThen,asInt,asIntOf,Sem.run_pure,run_typeInfo hi,Xp,ET g3,ET (Nat.le_trans g1 g3)];have hno:((decide ((cv:Int)<0)||decide ((TL:Int)*(cv:Int)>2^48))||decide ((lv:Int)<0)||decide ((lv:Int)>(cv:Int)))=false:=by
        have iG:(TL:Int)*(cv:Int)=((TL*cv:Nat):Int):=by simp
        rw[iG];simp only[Bool.or_eq_false_iff,decide_eq_false_iff_not];refine⟨⟨⟨by omega,?_⟩,by omega⟩,by omega⟩;have:((2:Int)^48)=281474976710656:=by decide
        rw[this];omega
       rw[if_neg (by rw[hno];simp)];simp only[Sem.run_bind,run_askRoom,Result.andThen,Int.toNat_natCast,run_sizeOf hk];by_cases h0:cv*k=0
       ·have yO:dH z.cells cv=[]:=List.length_eq_zero_iff.1 (by rw[eW,oO];exact h0);have QZ:∀g:Nat→Value,(Array.range (cv*k)).map g=(an ρ []).toArray:=by intro g;simp[h0,an]
        rw[if_pos h0,yO];simp only[Sem.run_bind,Result.andThen,Sem.run_pure,QZ,gY];simp[hb]
       ·rw[if_neg h0,←qh ρ z.cells cv (cv*k) (by rw[oO])];simp only[Sem.run_bind,xS.1,Result.andThen,Sem.run_pure,dU,gY];simp[hb]
     ·simp at hv
   ·simp at hc
  ·simp at hc
 case next it s=>
  exfalso;cases s with
  |true=>simp[az] at hc
  |false=>simp only[az] at hc;obtain⟨hq,_⟩:=aT hc;simp at hq
 case makeMap t r=>
  cases r with
  |some r=>simp[az] at hc
  |none=>
   simp only[az] at hc;obtain⟨hq,hr⟩:=aT hc;simp only[fZ.a.injEq] at hq;subst hq;simp[cn] at hr;subst hr;simp only[List.map_nil,aI,Option.some.injEq,Prod.mk.injEq] at hv;obtain⟨rfl,rfl⟩:=hv;refine⟨.map #[] 0,?_,?_,fun b D' hb=>by simpa[AV.aV] using hb⟩
   ·intro b ρ' hb;unfold execOp;rw[ho];simp[Instr.makeMap,real,hb,Result.andThen]
   ·intro ρ' D' _ _ hl;exact⟨#[],0,jW _ _,hl,rfl,fun p hp=>by simp at hp,rfl,rfl⟩
 case unOp u t x=>
  exfalso;cases u<;>simp only[az] at hc<;>first
   |(obtain⟨_,_,h2⟩:=bg hc;simp at h2;done)
   |(simp at hc;done)
 all_goals (exfalso;simp only[az] at hc)
 all_goals repeat' (first
  |(simp only[Option.bind_eq_some_iff] at hc;obtain⟨_,_,hc⟩:=hc)
  |(simp only[Option.map_eq_some_iff] at hc;obtain⟨_,_,hc⟩:=hc;simp at hc;done)
  |(obtain⟨_,_,h2⟩:=bg hc;simp at h2;done)
  |(simp at hc;done)
  |(split at hc))
end
end Ads
end Go.Proofs.YtnlcabhfkpafmaaGreat
set_option linter.unusedSimpArgs false
set_option linter.unusedVariables false
namespace Go.Proofs.YtnlcabhfkpafmaaGreat
namespace Ads
section
variable {P:Program} {H0:Nat} {ρ:cI} {D:Dom} {h h':Heap} {w:World} {n:Nat} {env:Env} {a:Act}
theorem r8{t:TypeId}{kk:IntKind}(hu:P.underlying t=some (.int kk))(e:Bool)(n:Nat)(v:Value):(Instr.checkKey e (n+1) t v).run P w=.ok () w:=by
 unfold Instr.checkKey;rw[Sem.run_bind,run_underlying hu];simp only[Result.andThen];cases v<;>simp
theorem RY{k x:AV}(he:fk k x=some true):k=x:=by
 unfold fk at he;split at he
 ·rename_i k1 a k2 b;cases hk:decide (k1=k2) with
  |false=>simp[hk] at he
  |true=>
   simp only[hk,cond_true,Option.some.injEq,beq_iff_eq] at he;rw[of_decide_eq_true hk,he]
 ·simp at he
theorem tg{k x:AV}{c:Bool}{kk:IntKind}(he:fk k x=some c):Instr.sameNow (.int kk) (real ρ k) (real ρ x)=some c:=by
 unfold fk at he;split at he
 ·rename_i k1 a k2 b;cases hk:decide (k1=k2) with
  |false=>simp[hk] at he
  |true=>
   simp only[hk,cond_true,Option.some.injEq] at he;simp only[real,Instr.sameNow];rw[if_pos (of_decide_eq_true hk),he]
 ·simp at he
theorem N1{k x:AV}{c:Bool}(he:fk k x=some c):∃kd n,k=.int kd n:=by
 unfold fk at he;split at he
 ·exact⟨_,_,rfl⟩
 ·simp at he
theorem lg{kk:IntKind}{k v:AV}:∀(es:List (AV×AV)) (ms:List MapEntry) (i:Nat) {r:Option AV},ms.map (fun m=>(m.key,m.val))=es.map (fun p=>(real ρ p.1,real ρ p.2))→findKey k es=some r→
  match r with
  |none=>Instr.findNow (.int kk) (real ρ k) ms i=some none∧putKey k v es=es++[(k,v)]
  |some u=>∃j,Instr.findNow (.int kk) (real ρ k) ms i=some (some (i+j,real ρ u))∧(ms[j]?).map (·.key)=some (real ρ k)∧(∃p,p∈es∧p.2=u)∧(∃kd n,k=.int kd n)∧
    (ms.modify j fun e=>{e with key:=real ρ k,val:=real ρ v}).map (fun m=>(m.key,m.val))=(putKey k v es).map fun p=>(real ρ p.1,real ρ p.2)
 |[],ms,i,r,hm,hf=>by
  simp only[findKey,Option.some.injEq] at hf;subst hf;have:ms=[]:=by simpa using hm
  subst this;exact⟨rfl,rfl⟩
 |(x,u)::es,ms,i,r,hm,hf=>by
  cases ms with
  |nil=>simp at hm
  |cons m ms=>
   simp only[List.map_cons,List.cons.injEq,Prod.mk.injEq] at hm;obtain⟨⟨h1,h2⟩,h3⟩:=hm;simp only[findKey] at hf;split at hf
   ·rename_i he;simp only[Option.some.injEq] at hf;subst hf;have hkx:=RY he;have hs:=tg (ρ:=ρ) (kk:=kk) he;refine⟨0,?_,?_,⟨_,List.mem_cons_self,rfl⟩,N1 he,?_⟩
    ·simp only[Instr.findNow,h1,hs,h2,Nat.add_zero]
    ·simp[h1,hkx]
    ·simp only[putKey,he,List.map_cons,h3.symm,List.modify_zero_cons]
   ·rename_i he;have hs:=tg (ρ:=ρ) (kk:=kk) he;have ih:=lg (kk:=kk) (v:=v) es ms (i+1) h3 hf;cases r with
    |none=>
     simp only at ih⊢;refine⟨by simp only[Instr.findNow,h1,hs];exact ih.1,?_⟩;simp only[putKey,he,ih.2,List.cons_append]
    |some u'=>
     simp only at ih⊢;obtain⟨j,i1,i2,⟨p,hp,hpu⟩,i4,i3⟩:=ih;refine⟨j+1,?_,?_,⟨p,List.mem_cons_of_mem _ hp,hpu⟩,i4,?_⟩
     ·simp only[Instr.findNow,h1,hs];rw[i1]
      congr 3
      omega
     ·simpa using i2
     ·simp only[putKey,he,List.map_cons,←i3,List.modify_succ_cons,h1,h2]
   ·simp at hf
theorem run_findKey{t:TypeId}{kk:IntKind}{K:Value}{ms:List MapEntry}{q:Option (Nat×Value)}(hu:P.underlying t=some (.int kk))(hf:Instr.findNow (.int kk) K ms 0=some q):(Instr.findKey t K ms).run P w=.ok q w:=by
 unfold Instr.findKey;rw[Sem.run_bind,run_underlying hu];simp only[Result.andThen,hf,Sem.run_pure]
theorem vL{st:Nat}{v:AV}:∀(es:List (AV×AV)) (bs:List Nat) (ms:List MapEntry),ms.map (fun m=>(m.key,m.val))=es.map (fun p=>(real ρ p.1,real ρ p.2))→ms.map (fun m=>m.born)=bs→
  (∀p∈es,p.1.aV D∧p.2.aV D)→qt st bs es=some v→∃k u,v=.cD [k,u]∧∃e:MapEntry,ms.find? (fun x=>x.born==st)=some e∧real ρ k=e.key∧real ρ u=e.val∧k.aV D∧u.aV D
 |[],bs,ms,hm,hb,hd,hv=>by cases bs<;>simp[qt] at hv
 |(k,u)::es,[],ms,hm,hb,hd,hv=>by simp[qt] at hv
 |(k,u)::es,b::bs,[],hm,hb,hd,hv=>by simp at hm
 |(k,u)::es,b::bs,m::ms,hm,hb,hd,hv=>by
  simp only[List.map_cons,List.cons.injEq,Prod.mk.injEq] at hm hb;simp only[qt] at hv;cases HC:Nat.beq b st with
  |true=>
   simp only[HC,cond_true,Option.some.injEq] at hv;have:=Nat.eq_of_beq_eq_true HC;exact⟨k,u,hv.symm,m,by simp[List.find?_cons,hb.1,this],hm.1.1.symm,hm.1.2.symm,(hd _ List.mem_cons_self).1,(hd _ List.mem_cons_self).2⟩
  |false=>
   simp only[HC,cond_false] at hv;obtain⟨k',u',rfl,e,h1,h2⟩:=vL es bs ms hm.2 hb.2 (fun p hp=>hd p (List.mem_cons_of_mem _ hp)) hv;have hne:(m.born==st)=false:=by
    rw[hb.1];cases hx:(b==st) with
    |false=>rfl
    |true=>rw[beq_iff_eq.1 hx,Nat.beq_refl] at HC;simp at HC
   exact⟨k',u',rfl,e,by rw[List.find?_cons,hne];exact h1,h2⟩
theorem x6:∀{cs:List AV} {s:List UInt8},cY cs=some s→∃ns:List Int,an ρ cs=ns.map (Value.int .u8)∧ns.foldl (fun(r:ByteArray) n=>r.push (UInt8.ofNat n.toNat)) ByteArray.empty=⟨s.toArray⟩:=by
 have key:∀(cs:List AV) (s:List UInt8),cY cs=some s→∃ns:List Int,an ρ cs=ns.map (Value.int .u8)∧∀l:List UInt8,ns.foldl (fun(r:ByteArray) n=>r.push (UInt8.ofNat n.toNat)) ⟨l.toArray⟩=⟨(l++s).toArray⟩:=by
  intro cs;induction cs with
  |nil=>
   intro s hs;simp only[cY,Option.some.injEq] at hs;subst hs;exact⟨[],by simp[an],fun l=>by simp⟩
  |cons c cs ih=>
   intro s hs;cases c with
   |int k m=>
    cases k<;>simp only[cY,Option.map_eq_some_iff] at hs<;>try(simp at hs;done)
    obtain⟨s',h1,rfl⟩:=hs;obtain⟨ns,g1,g2⟩:=ih s' h1;refine⟨m::ns,by simp[an,real,g1],fun l=>?_⟩;simp only[List.foldl_cons];have:(ByteArray.push ⟨l.toArray⟩ (UInt8.ofNat m.toNat))=⟨(l++[UInt8.ofNat m.toNat]).toArray⟩:=by
     simp[ByteArray.push]
    rw[this,g2];simp
   |_=>simp[cY] at hs
 intro cs s hs;obtain⟨ns,g1,g2⟩:=key cs s hs;exact⟨ns,g1,g2 []⟩
theorem Ce{o:Oper}{op:Cy}{rs:List bE}{v:AV}(he:bI ρ D n env a)(i:Inv P H0 ρ D h w)(hc:az P o.op=some (.r op,rs))(hv:rI op (rs.map env.ev) h=some v):
  xz P ρ D w (execOp a.eval o) v:=by
 cases ho:o.op<;>rw[ho] at hc
 case load t x=>
  simp only[az] at hc;split at hc
  ·rename_i k hg hk;obtain⟨hq,hr⟩:=aT hc;simp only[fZ.r.injEq] at hq;subst hq;obtain⟨r,rfl,h1⟩:=fu hr;have e1:=aD he h1;simp only[List.map_cons,List.map_nil] at hv;cases hx:env.ev r with
   |ptr b o'=>
    rw[hx] at hv e1;simp only[AV.aV] at e1;simp only[rI,Option.map_eq_some_iff] at hv;obtain⟨cs,hl,rfl⟩:=hv;have hrun:=cg (P:=P) i e1.2 hl;unfold execOp;rw[ho];refine bK ?_ (by simp only[AV.aV];exact hrun.2);simp only[Instr.loadAt,e1.1,real,Instr.sureAddr,Sem.run_bind,Sem.run_pure,Result.andThen,loadVar,lK hg,if_true,run_sizeOf hk,hrun.1]
   |_=>rw[hx] at hv;simp[rI] at hv
  ·rename_i k hg hk;obtain⟨hq,hr⟩:=aT hc;simp only[fZ.r.injEq] at hq;subst hq;obtain⟨r,rfl,h1⟩:=fu hr;have e1:=aD he h1;simp only[List.map_cons,List.map_nil] at hv;cases hx:env.ev r with
   |ptr b o'=>
    rw[hx] at hv e1;simp only[AV.aV] at e1;simp only[rI] at hv;have kV:=cell_of i e1.2 hv;unfold execOp;rw[ho];refine bK ?_ kV.2;simp only[Instr.loadAt,e1.1,real,Instr.sureAddr,Sem.run_bind,Sem.run_pure,Result.andThen,loadVar,lK hg,Bool.false_eq_true,if_false];rw[run_load,kV.1]
   |_=>rw[hx] at hv;simp[rI] at hv
  ·simp at hc
 case convert src dst x=>
  simp only[az] at hc;split at hc
  ·exfalso;obtain⟨hq,_⟩:=aT hc;simp at hq
  ·exfalso;obtain⟨hq,_⟩:=aT hc;simp at hq
  ·exfalso;split at hc
   ·obtain⟨hq,_⟩:=aT hc;simp at hq
   ·simp at hc
  ·rename_i e hs hd;split at hc
   ·rename_i Xl;obtain⟨hq,hr⟩:=aT hc;simp only[fZ.r.injEq] at hq;subst hq;obtain⟨r,rfl,h1⟩:=fu hr;have e1:=aD he h1;simp only[List.map_cons,List.map_nil] at hv;unfold execOp;rw[ho];simp only[e1.1];cases hx:env.ev r with
    |aH=>
     rw[hx] at hv;cases hv
     refine bK ?_ (by simp[AV.aV]);show(convert src dst (.slice none 0 0)).run P w=_;rw[run_convert_bytes_string w src dst e none 0 0 hs Xl hd];rfl
    |fY wa=>
     rw[hx] at hv;cases hv
     refine bK ?_ (by simp[AV.aV]);simp only[real];rw[run_convert_bytes_string w src dst e _ _ _ hs Xl hd,run_bytesToString w _ 0 _ [] (by simp[loadCells,loadCellsFrom])];rfl
    |rest b o j=>
     rw[hx] at hv;cases hv
     refine bK ?_ (by simp[AV.aV]);simp only[real];rw[run_convert_bytes_string w src dst e _ _ _ hs Xl hd,run_bytesToString w _ 0 _ [] (by simp[loadCells,loadCellsFrom])];rfl
    |sl b o len cap jS=>
     rw[hx] at hv e1;simp only[AV.aV] at e1;simp only[rI] at hv;split at hv
     ·rename_i cs hl;simp only[Option.map_eq_some_iff] at hv;obtain⟨s,hsb,rfl⟩:=hv;have hrun:=cg (P:=P) i e1.2 hl;obtain⟨ns,UY,hss⟩:=x6 (ρ:=ρ) hsb;rw[UY] at hrun;refine bK ?_ (by simp[AV.aV]);simp only[real];rw[run_convert_bytes_string w src dst e _ _ _ hs Xl hd,run_bytesToString w _ len _ ns hrun.1,hss]
     ·simp at hv
    |_=>rw[hx] at hv;simp[rI] at hv
   ·simp at hc
  ·simp at hc
 case unOp u t x=>
  exfalso;cases u<;>simp only[az] at hc<;>first
   |(obtain⟨_,_,h2⟩:=bg hc;simp at h2;done)
   |(simp at hc;done)
 case lookup t m k ok=>
  simp only[az] at hc;split at hc
  ·rename_i kt e hu;split at hc
   ·rename_i kk hk;simp only[Option.bind_eq_some_iff] at hc;obtain⟨z,hz,hc⟩:=hc;obtain⟨hq,hr⟩:=aT hc;simp only[fZ.r.injEq] at hq;subst hq;obtain⟨r,q,rfl,h1,h2⟩:=gx hr;have e1:=aD he h1;have e2:=aD he h2;have xS:=cS (P:=P) (w:=w) hz ρ D;simp only[List.map_cons,List.map_nil] at hv;unfold execOp;rw[ho];simp only[e1.1,e2.1];cases hr':env.ev r with
    |map b=>
     rw[hr'] at hv e1;simp only[AV.aV] at e1;simp only[rI] at hv;split at hv
     ·rename_i es bs c hg;obtain⟨ms,clock,hcell,rO,tA,vX,-⟩:=i.bJ b _ e1.2 hg;have cu:(getObj (ρ b).bJ).run P w=.ok (.map ms clock) w:=by simp[getObj,Sem.run,hcell]
      split at hv
      ·rename_i u hf;simp only[Option.some.injEq] at hv;subst hv;obtain⟨j,f1,-,⟨p,hp,hpu⟩,-,-⟩:=lg (ρ:=ρ) (kk:=kk) (v:=.undef) es ms.toList 0 tA hf;have U7:u.aV D:=hpu▸(vX p hp).2;refine bK ?_ (by cases ok<;>simp[AV.aV,bh,U7]);simp only[Instr.lookup,real,Sem.run_bind,run_underlying hu,Result.andThen,cu,r8 hk,run_findKey hk f1,Sem.run_pure];cases ok<;>simp[real,an]
      ·rename_i hf;simp only[Option.some.injEq] at hv;subst hv;obtain⟨f1,-⟩:=lg (ρ:=ρ) (kk:=kk) (v:=.undef) es ms.toList 0 tA hf;refine bK ?_ (by cases ok<;>simp[AV.aV,bh,xS.2]);simp only[Instr.lookup,real,Sem.run_bind,run_underlying hu,Result.andThen,cu,r8 hk,run_findKey hk f1,Sem.run_pure,xS.1];cases ok<;>simp[real,an]
      ·simp at hv
     ·simp at hv
    |jJ=>
     rw[hr'] at hv e1;simp only[rI,Option.some.injEq] at hv;subst hv;refine bK ?_ (by cases ok<;>simp[AV.aV,bh,xS.2]);simp only[Instr.lookup,real,Sem.run_bind,run_underlying hu,Result.andThen,r8 hk,run_findKey hk (ms:=[]) rfl,Sem.run_pure,xS.1];cases ok<;>simp[real,an]
    |_=>rw[hr'] at hv;simp[rI] at hv
   ·exfalso;obtain⟨hq,_⟩:=aT hc;simp at hq
   ·exfalso;obtain⟨hq,_⟩:=aT hc;simp at hq
   ·simp at hc
  ·simp at hc
 case entry it=>
  simp only[az] at hc;obtain⟨hq,hr⟩:=aT hc;simp only[fZ.r.injEq] at hq;subst hq;obtain⟨r,rfl,h1⟩:=fu hr;have e1:=aD he h1;simp only[List.map_cons,List.map_nil] at hv;have hx:∃it',env.ev r=.ptr it' 0:=by
   cases hx:env.ev r with
   |ptr it' oo=>cases oo with
    |zero=>exact⟨it',rfl⟩
    |succ oo=>rw[hx] at hv;simp[rI] at hv
   |_=>rw[hx] at hv;simp[rI] at hv
  obtain⟨it',hx⟩:=hx;rw[hx] at e1 hv;simp only[AV.aV] at e1;simp only[rI] at hv;split at hv
  ·rename_i m since seen last hg;split at hv
   ·rename_i st es bs c hst hm;cases hb:Nat.beq c last with
    |false=>simp[hb] at hv
    |true=>
     simp only[hb,cond_true] at hv;have kV:=Nat.eq_of_beq_eq_true hb;obtain⟨_,CA,Ti,sn,hcell,JL⟩:=i.bJ it' _ e1.2 hg;obtain⟨ms,clock,vW,_,tA,vX,Cz,vh⟩:=i.bJ m _ CA hm;obtain⟨k,u,rfl,e,hf,xQ,hk2,Gx,Ux⟩:=vL (ρ:=ρ) (D:=D) es bs ms.toList tA vh vX hv;have Bu:sn.back?=some st:=by rw[←Array.getLast?_toList,JL];exact hst
     unfold execOp;rw[ho];refine bK ?_ (by simp[AV.aV,bh,Gx,Ux]);have Xm:ms.find? (fun x=>x.born==st)=some e:=by rw[←Array.find?_toList];exact hf
     simp only[e1.1,real,Nat.add_zero,Instr.entry,Sem.run_bind,getObj,Sem.run,Ti,hcell,Result.andThen,Bu,vW,Cz,kV,bne_self_eq_false,Bool.false_eq_true,if_false,Xm,xQ,hk2,an];rfl
   ·simp at hv
  ·simp at hv
 case next it s=>
  exfalso;cases s with
  |true=>simp[az] at hc
  |false=>simp only[az] at hc;obtain⟨hq,_⟩:=aT hc;simp at hq
 case makeMap t r=>
  exfalso;cases r with
  |none=>simp only[az] at hc;obtain⟨hq,_⟩:=aT hc;simp at hq
  |some r=>simp[az] at hc
 all_goals (exfalso;simp only[az] at hc)
 all_goals repeat' (first
  |(simp only[Option.bind_eq_some_iff] at hc;obtain⟨_,_,hc⟩:=hc)
  |(simp only[Option.map_eq_some_iff] at hc;obtain⟨_,_,hc⟩:=hc;simp at hc;done)
  |(obtain⟨_,_,h2⟩:=bg hc;simp at h2;done)
  |(simp at hc;done)
  |(split at hc))
theorem Dw(hm:∀b x,h.get b=some x→h'.get b=some x){b o:Nat}{v:AV}(hl:h.bY b o=some v):h'.bY b o=some v:=by
 unfold Heap.bY Heap.row at hl⊢;cases hg:h.get b with
 |none=>simp[hg] at hl
 |some x=>rw[hm b x hg];simpa[hg] using hl
theorem wB(hm:∀b x,h.get b=some x→h'.get b=some x){b o k:Nat}{v:List AV}(hl:h.bf b o k=some v):h'.bf b o k=some v:=by
 unfold Heap.bf Heap.row at hl⊢;cases hg:h.get b with
 |none=>simp[hg] at hl
 |some x=>rw[hm b x hg];simpa[hg] using hl
theorem Vs{b:Nat}(hb:h'.get b=h.get b)(o:Nat):h'.bY b o=h.bY b o:=by
 unfold Heap.bY Heap.row;rw[hb]
theorem Fq(hm:∀b x,h.get b=some x→h'.get b=some x){op:Cy}{vals:List AV}{v:AV}(hv:rI op vals h=some v):rI op vals h'=some v:=by
 unfold rI at hv⊢;split at hv
 ·exact Dw hm hv
 ·simp only[Option.map_eq_some_iff] at hv⊢;obtain⟨cs,hl,rfl⟩:=hv;exact⟨cs,wB hm hl,rfl⟩
 ·rename_i ok zero b k;cases hg:h.get b with
  |none=>simp[hg] at hv
  |some x=>rw[hm b x hg];rw[hg] at hv;exact hv
 ·exact hv
 ·exact hv
 ·exact hv
 ·exact hv
 ·rename_i b o len _ _;cases hl:h.bf b o len with
  |none=>simp[hl] at hv
  |some cs=>rw[wB hm hl];rw[hl] at hv;exact hv
 ·exact hv
 ·rename_i b;cases hg:h.get b with
  |none=>simp[hg] at hv
  |some x=>rw[hm b x hg];rw[hg] at hv;exact hv
 ·rename_i it;cases hg:h.get it with
  |none=>simp[hg] at hv
  |some x=>
   rw[hm it x hg];rw[hg] at hv;split at hv
   ·rename_i m since seen last heq;simp only[Option.some.injEq] at heq;subst heq;split at hv
    ·rename_i st es bs c h1 h2;rw[h1,hm m _ h2];exact hv
    ·simp at hv
   ·simp at hv
 ·simp at hv
def vv(P:Program)(H0:Nat)(ρ:cI)(D:Dom)(h:Heap)(w:World)(s:Sem Next)(v:AV)(h':Heap):Prop:=
 ∃ρ' w',(s.run P w=.ok (.value (real ρ' v)) w'∨(s.run P w=.ok .skip w'∧v=.undef))∧
  Inv P H0 ρ' (grow D h.next h'.next) h' w'∧Ext ρ D h w ρ' h' w'∧v.aV (grow D h.next h'.next)
theorem setRow_size(w:World)(g:Nat)(o:Obj):(setRow w g o).heap.size=w.heap.size:=by simp[setRow]
theorem oI(i:Inv P H0 ρ D h w){b o:Nat}{xs:List AV}(hd:D b)(hx:bh D xs)(hs:h.di b o xs=some h'):
  h'.next=h.next∧∃w',(storeCells ⟨(ρ b).bJ,(ρ b).off+o,none⟩ (an ρ xs)).run P w=.ok () w'∧Inv P H0 ρ D h' w'∧Ext ρ D h w ρ h' w':=by
 unfold Heap.di at hs;split at hs
 ·rename_i vs es hg;cases hc:(Nat.ble (o+xs.length) vs.length&&bz xs) with
  |false=>simp[hc] at hs
  |true=>
   simp only[hc,cond_true,Option.some.injEq] at hs;subst hs;simp only[Bool.and_eq_true] at hc;have hle:=Nat.le_of_ble_eq_true hc.1;obtain⟨c,t,fr,hcell,h1,h2⟩:=i.bJ b _ hd hg;obtain⟨h3,h4,h5⟩:=h2 rfl;have iO:h.wr b=true:=by simp[Heap.wr,hg]
   have hrun:=jK (P:=P) (ρ b).bJ t fr (an ρ xs) ((ρ b).off+o) 0 c w hcell (by
     intro v hv;rw[cK] at hv;obtain⟨x,hx',rfl⟩:=List.mem_map.1 hv;exact vP (qu hc.2 x hx')) (by rw[aN];omega) h5
   refine⟨rfl,_,hrun,?_⟩;have hlt:=(Array.getElem?_eq_some_iff.1 hcell).1;refine qa i hd iO rfl (setRow_size _ _ _) (fun r hr=>by rw[dG,if_neg hr]) rfl rfl rfl ?_;refine⟨_,t,fr,by rw[dG,if_pos rfl,if_pos hlt],?_,fun _=>⟨h3,?_,?_⟩⟩
   ·intro j v hj;rw[Heap.eT _ _ _ _ hle] at hj;rw[List.getElem?_toArray,Heap.eT _ _ _ _ (by simp[aN];omega),aN];split at hj
    ·rename_i GG;rw[if_pos ⟨by omega,by omega⟩];refine⟨?_,(aP D xs).1 hx v (List.mem_of_getElem? hj)⟩;rw[eA,show(ρ b).off+j-((ρ b).off+o+0)=j-o by omega,hj];rfl
    ·rename_i GG;rw[if_neg (by omega)];have:=h1 j v hj;exact⟨by simpa using this.1,this.2⟩
   ·simp only[List.size_toArray,Heap.eo,Array.length_toList];exact h4
   ·simpa[Heap.eo] using h5
 ·simp at hs
end
end Ads
end Go.Proofs.YtnlcabhfkpafmaaGreat
set_option linter.unusedSimpArgs false
set_option linter.unusedVariables false
namespace Go.Proofs.YtnlcabhfkpafmaaGreat
namespace Ads
section
variable {P:Program} {H0:Nat} {ρ:cI} {D:Dom} {h h':Heap} {w:World} {n:Nat} {env:Env} {a:Act}
theorem Dx{b o k m:Nat}{vs:List AV}(hl:h.bf b o k=some vs)(hm:m≤k):h.bf b o m=some (vs.take m):=by
 unfold Heap.bf at hl⊢;cases hr:h.row b with
 |none=>simp[hr] at hl
 |some xs=>
  simp only[hr] at hl⊢;cases hb:Nat.ble (o+k) xs.length with
  |false=>simp[hb] at hl
  |true=>
   simp only[hb,cond_true,Option.some.injEq] at hl;have hle:=Nat.le_of_ble_eq_true hb;have:Nat.ble (o+m) xs.length=true:=Nat.ble_eq_true_of_le (by omega);simp only[this,cond_true,Option.some.injEq];rw[←hl,List.take_take,Nat.min_eq_left hm]
theorem mz(i:Inv P H0 ρ D h w){size k:Nat}{x:AV}{cs:List AV}(hd:x.aV D)(hs:aS size h x=some (k,cs)):
  (Builtin.lenOf (real ρ x)).run P w=.ok k w∧bh D cs∧
  ((∀s,x≠.str s)→∀m,m≤k→(Builtin.firstCells size m (real ρ x)).run P w=.ok (an ρ (cs.take (m*size))).toArray w)∧
  (Builtin.firstCells size k (real ρ x)).run P w=.ok (an ρ cs).toArray w:=by
 cases x with
 |aH=>
  simp only[aS,Option.some.injEq,Prod.mk.injEq] at hs;obtain⟨rfl,rfl⟩:=hs;exact⟨by simp[Builtin.lenOf,real],by simp[bh],fun _ m _=>by simp[Builtin.firstCells,real,an],by simp[Builtin.firstCells,real,an]⟩
 |fY wa=>
  simp only[aS,Option.some.injEq,Prod.mk.injEq] at hs;obtain⟨rfl,rfl⟩:=hs;refine⟨by simp[Builtin.lenOf,real],by simp[bh],fun _ m hm=>?_,by simp[Builtin.firstCells,real,an,loadCells,loadCellsFrom]⟩;have:m=0:=by omega
  subst this;simp[Builtin.firstCells,real,an,loadCells,loadCellsFrom]
 |rest b o j=>
  simp only[aS,Option.some.injEq,Prod.mk.injEq] at hs;obtain⟨rfl,rfl⟩:=hs;refine⟨by simp[Builtin.lenOf,real],by simp[bh],fun _ m hm=>?_,by simp[Builtin.firstCells,real,an,loadCells,loadCellsFrom]⟩;have:m=0:=by omega
  subst this;simp[Builtin.firstCells,real,an,loadCells,loadCellsFrom]
 |sl b o len cap jS=>
  simp only[aS,Option.map_eq_some_iff,Prod.mk.injEq] at hs;obtain⟨cs',hl,rfl,rfl⟩:=hs;simp only[AV.aV] at hd;have hfull:=cg (P:=P) i hd hl;refine⟨by simp[Builtin.lenOf,real],hfull.2,fun _ m hm=>?_,?_⟩
  ·have:=cg (P:=P) i hd (Dx hl (Nat.mul_le_mul_right size hm));simp only[Builtin.firstCells,real];exact this.1
  ·simp only[Builtin.firstCells,real];exact hfull.1
 |str s=>
  simp only[aS] at hs;cases h1:Nat.beq size 1 with
  |false=>simp[h1] at hs
  |true=>
  simp only[h1,cond_true,Option.some.injEq,Prod.mk.injEq] at hs;obtain⟨rfl,rfl⟩:=hs;have hsz:(⟨s.toArray⟩:ByteArray).size=s.length:=by simp only[ByteArray.size,List.size_toArray]
  refine⟨by simp only[Builtin.lenOf,real,Sem.run_pure,hsz],?_,fun hne=>absurd rfl (hne s),?_⟩
  ·rw[aP];intro v hv;obtain⟨b,_,rfl⟩:=List.mem_map.1 hv;simp[AV.aV]
  ·simp only[Builtin.firstCells,real,Sem.run_pure]
   congr 1
   have:(⟨s.toArray⟩:ByteArray).extract 0 s.length=⟨s.toArray⟩:=by
    apply ByteArray.ext;rw[ByteArray.data_extract];apply Array.ext';simp
   rw[this];apply Array.ext';simp[cK,real,Function.comp_def]
 |_=>simp[aS] at hs
theorem jO(z:Array Value)(k:Nat):(Builtin.zeroCells z k).size=k*z.size:=by simp[Builtin.zeroCells]
theorem qy(i:Inv P H0 ρ D h w){cs:List AV}(t:TypeId)(es extra:Nat)(rest:Array Value)(hd:bh D cs)(hr:rest.size=extra*es):
  let L:Loc:=⟨w.heap.size,0,extra⟩
  Inv P H0 (iA ρ h.next L) (grow D h.next (h.next+1)) (h.new (.cells cs true es)) (w.drew.alloc (.cells ((an ρ cs).toArray++rest) t))∧
  Ext ρ D h w (iA ρ h.next L) (h.new (.cells cs true es)) (w.drew.alloc (.cells ((an ρ cs).toArray++rest) t)):=by
 intro L;refine p9 i _ extra (.cells ((an ρ cs).toArray++rest) t) rfl rfl rfl rfl ?_;have gG:∀b,D b→iA ρ h.next L b=ρ b:=fun b hb=>j9 _ _ (by have:=i.lt b hb;omega);refine⟨_,t,(0,0),jW w.drew _,?_,fun _=>⟨i.low,?_,fun j h1 h2=>by simp at h2⟩⟩
 ·intro j v hj;have hjl:j<cs.length:=(List.getElem?_eq_some_iff.1 hj).1;have hv:=(aP D cs).1 hd v (List.mem_of_getElem? hj);refine⟨?_,cQ (fun _=>.inl) v hv⟩;rw[cq gG v hv];simp only[Nat.zero_add];rw[Array.getElem?_append_left (by simp[aN];exact hjl),List.getElem?_toArray,eA,hj];rfl
 ·simp[aN,hr]
theorem kG(ρ:cI)(l m:List AV):(an ρ l).toArray++(an ρ m).toArray=(an ρ (l++m)).toArray:=by
 rw[iz];simp
theorem td{t u e ty:TypeId}{z:AV}{size bytes k m cap:Nat}{base:Option Addr}{xv:Value}{old new:Array Value}{d:TypeDesc}(hu:P.underlying t=some (.slice e))(hd:P.underlying u=some d)(hx:pO d=true)
  (hs:eX P e=some size)(hb:rH P e=some bytes)(hz:mX P e=some z)
  (hlen:(Builtin.lenOf xv).run P w=.ok m w)(hold:(Builtin.firstCells size k (.slice base k cap)).run P w.drew=.ok old w.drew)
  (hnew:(Builtin.firstCells size m xv).run P w.drew=.ok new w.drew)(hgt:¬k+m≤cap)(qP:(k+m)*bytes≤140737488355328)(iG:k+m≤9223372036854775807):
  ∃Dz,k+m≤Dz∧(Builtin.append_ #[t,u] ty #[.slice base k cap,xv]).run P w=
   .ok (.slice (some ⟨w.heap.size,0,none⟩) (k+m) Dz) (w.drew.alloc (.cells (old++new++Builtin.zeroCells (real ρ z).cells (Dz-(k+m))) e)):=by
 obtain⟨i,hi,Xp⟩:∃i,P.info? e=some i∧i.bytes=bytes:=by
  simp only[rH,Option.map_eq_some_iff] at hb;obtain⟨i,hi,hb⟩:=hb;exact⟨i,hi,hb⟩
 have hzd:(zeroValue e).run P w.drew=.ok (real ρ z) w.drew:=(cS hz ρ (fun _=>True)).1;have hsz:(sizeOf e).run P w=.ok size w:=run_sizeOf hs;have Z6:=nextslicecap_le (need:=k+m) (old:=cap) (by omega);refine⟨(Question.appendCap (k+m) cap e).cut (w.tape w.drawn (.appendCap (k+m) cap e)),Nat.le_add_right _ _,?_⟩;have h63:¬(9223372036854775807<((k:Int)+(m:Int))):=by omega
 have h48:¬(281474976710656<Builtin.nextslicecap (k+m) cap*bytes):=by
  have:Builtin.nextslicecap (k+m) cap*bytes≤2*(k+m)*bytes:=Nat.mul_le_mul_right _ Z6;have h3:2*(k+m)*bytes=2*((k+m)*bytes):=Nat.mul_assoc _ _ _;omega
 cases d<;>simp[pO] at hx
 ·simp[Builtin.append_,run_underlying hu,run_underlying hd,hsz,run_typeInfo hi,Xp,hlen,hgt,h63,h48,Question.forced,hold,hnew,hzd,gY,Result.andThen]
 ·simp[Builtin.append_,run_underlying hu,run_underlying hd,hsz,run_typeInfo hi,Xp,hlen,hgt,h63,h48,Question.forced,hold,hnew,hzd,gY,Result.andThen]
theorem nF{t u e ty:TypeId}{size k m cap:Nat}{base:Option Addr}{xv:Value}{new:Array Value}{d:TypeDesc}{w':World}(hu:P.underlying t=some (.slice e))(hd:P.underlying u=some d)(hx:pO d=true)
  (hs:eX P e=some size)(hlen:(Builtin.lenOf xv).run P w=.ok m w)(hnew:(Builtin.firstCells size m xv).run P w=.ok new w)(hle:k+m≤cap)
  (hst:∀a,base=some a→(storeCells (a.add (k*size)) new.toList).run P w=.ok () w')(hn:base=none→w'=w):
  (Builtin.append_ #[t,u] ty #[.slice base k cap,xv]).run P w=.ok (.slice base (k+m) cap) w':=by
 have hsz:(sizeOf e).run P w=.ok size w:=run_sizeOf hs;cases base with
 |none=>
  have:=hn rfl;subst this;cases d<;>simp[pO] at hx
  ·simp[Builtin.append_,run_underlying hu,run_underlying hd,hsz,hlen,hle,hnew,Result.andThen]
  ·simp[Builtin.append_,run_underlying hu,run_underlying hd,hsz,hlen,hle,hnew,Result.andThen]
 |some a=>
  have h1:=hst a rfl;cases d<;>simp[pO] at hx
  ·simp[Builtin.append_,run_underlying hu,run_underlying hd,hsz,hlen,hle,hnew,h1,Result.andThen]
  ·simp[Builtin.append_,run_underlying hu,run_underlying hd,hsz,hlen,hle,hnew,h1,Result.andThen]
end
end Ads
end Go.Proofs.YtnlcabhfkpafmaaGreat
set_option linter.unusedSimpArgs false
set_option linter.unusedVariables false
namespace Go.Proofs.YtnlcabhfkpafmaaGreat
namespace Ads
section
variable {P:Program} {H0:Nat} {ρ:cI} {D:Dom} {h h':Heap} {w:World} {n:Nat} {env:Env} {a:Act}
theorem sF(i:Inv P H0 ρ D h w):Inv P H0 ρ D h w.drew where
 lt:=i.lt
 top:=i.top
 low:=i.low
 bJ:=fun b x hd hx=>bO (i.bJ b x hd hx) (fun _=>id) (fun _ _=>rfl) rfl
 apart:=i.apart
theorem Nb(i:Inv P H0 ρ D h w){b:Nat}(hd:D b):Inv P H0 ρ D (h.del b) w∧Ext ρ D h w ρ (h.del b) w:=by
 have cu:∀c x,(h.del b).get c=some x→h.get c=some x:=by
  intro c x hx;rw[Heap.cL] at hx;split at hx
  ·simp at hx
  ·exact hx
 have iO:∀c,(h.del b).wr c=true→h.wr c=true:=by
  intro c hx;rw[xx] at hx;split at hx
  ·simp at hx
  ·exact hx
 constructor
 ·refine⟨i.lt,?_,i.low,fun c x hc hx=>i.bJ c x hc (cu c x hx),?_⟩
  ·intro c hc;rw[Heap.cL];split
   ·rfl
   ·exact i.top c hc
  ·intro c c' hc ie hne hw hg;refine i.apart c c' hc ie hne (iO c hw) ?_;cases hx:(h.del b).get c' with
   |none=>exact absurd hx hg
   |some x=>rw[cu c' x hx];simp
 ·refine⟨Nat.le_refl _,fun _ _=>rfl,Nat.le_refl _,fun _ _ _=>rfl,?_,?_,fun _ h1 h2=>by simp at h2;omega,rfl,rfl,rfl⟩
  ·intro c _ hc;rw[Heap.cL,if_neg (fun e=>hc (by rw[e];exact hd))]
  ·intro c _ hn;rw[Heap.cL] at hn;rw[xx];split at hn
   ·simp at hn
   ·rename_i hne;rw[if_neg hne];exact⟨hn,id⟩
theorem oH{size m:Nat}{h:Heap}{x:AV}{new:List AV}(hsc:aS size h x=some (m,new)):new.length=m*size:=by
 cases x with
 |aH=>simp[aS] at hsc;obtain⟨rfl,rfl⟩:=hsc;simp
 |fY wa=>simp[aS] at hsc;obtain⟨rfl,rfl⟩:=hsc;simp
 |rest b o j=>simp[aS] at hsc;obtain⟨rfl,rfl⟩:=hsc;simp
 |sl b2 o2 l2 c2 XB=>
  simp only[aS,Option.map_eq_some_iff,Prod.mk.injEq] at hsc;obtain⟨cs2,UQ,rfl,rfl⟩:=hsc;exact(gU UQ).1
 |str s2=>
  simp only[aS] at hsc;cases h1:Nat.beq size 1 with
  |false=>simp[h1] at hsc
  |true=>
   simp only[h1,cond_true,Option.some.injEq,Prod.mk.injEq] at hsc;obtain⟨rfl,rfl⟩:=hsc;rw[Nat.eq_of_beq_eq_true h1];simp
 |_=>simp[aS] at hsc
theorem AY{o:Oper}{c:Call}{s x:Operand}{t u:TypeId}{ts:List TypeId}{e:TypeId}{d:TypeDesc}{size bytes:Nat}{z:AV}{rs:List bE}{v:AV}{op:xB}
  (he:bI ρ D n env a)(i:Inv P H0 ρ D h w)(ho:o.op=.call c)(hcb:c.callee=.builtin .append)(hargs:c.args.toList=[s,x])(eU:c.argTypes.toList=t::u::ts)
  (hu:P.underlying t=some (.slice e))(hd:P.underlying u=some d)(hsrc:pO d=true)(hsz:eX P e=some size)(hb:rH P e=some bytes)(hz:mX P e=some z)
  (hzl:z.cells.length=size)(hc:one (.e (.append size bytes)) [s,x]=some (.e op,rs))(hv:eI op (rs.map env.ev) h=some (v,h')):
  vv P H0 ρ D h w (execOp a.eval o) v h':=by
 obtain⟨hq,hr⟩:=aT hc;simp only[fZ.e.injEq] at hq;subst hq;obtain⟨r,q,rfl,h1,h2⟩:=gx hr;have e1:=aD he h1;have e2:=aD he h2;rw[iw o c .append ho hcb,eB hargs (ys:=[real ρ (env.ev r),real ρ (env.ev q)]) (by simp[e1.1,e2.1])];simp only[List.map_cons,List.map_nil,eI] at hv;have pH:∃ts',c.argTypes=(t::u::ts').toArray:=⟨ts,nI eU⟩;obtain⟨ts',pH⟩:=pH;have z6:∀(x y:Value),Builtin.append_ (t::u::ts').toArray o.type #[x,y]=Builtin.append_ #[t,u] o.type #[x,y]:=by
  intro x y;simp[Builtin.append_]
 rw[pH];have yK:∀(l:Array Bool) (xs:List Value),builtin .append (t::u::ts').toArray o.type l xs.toArray=(do pure (.value (←Builtin.append_ (t::u::ts').toArray o.type xs.toArray))):=fun _ _=>rfl;rw[yK];rw[show([real ρ (env.ev r),real ρ (env.ev q)]:List Value).toArray=#[real ρ (env.ev r),real ρ (env.ev q)] from rfl,z6];have fin:∀{ρ':cI} {w':World} {v:AV},(Builtin.append_ #[t,u] o.type #[real ρ (env.ev r),real ρ (env.ev q)]).run P w=.ok (real ρ' v) w'→
   (do pure (.value (←Builtin.append_ #[t,u] o.type #[real ρ (env.ev r),real ρ (env.ev q)])):Sem Next).run P w=.ok (.value (real ρ' v)) w':=by
  intro ρ' w' v hh;rw[Sem.run_bind,hh];rfl
 cases hsc:aS size h (env.ev q) with
 |none=>simp[hsc] at hv
 |some km=>
  obtain⟨m,new⟩:=km;simp only[hsc] at hv;have hs:=mz (P:=P) i e2.2 hsc;have hs':=mz (P:=P) (sF i) e2.2 hsc;obtain⟨hlen,AI,_,hnew⟩:=hs;have BH:=hs'.2.2.2;cases hfl:bz new with
  |false=>simp[hfl] at hv
  |true=>
   simp only[hfl,cond_true] at hv;cases hr':env.ev r with
   |aH=>
    rw[hr'] at hv;simp only at hv;cases hm0:Nat.beq m 0 with
    |true=>
     have hm:=Nat.eq_of_beq_eq_true hm0;subst hm;simp only[hm0,cond_true,Option.some.injEq,Prod.mk.injEq] at hv;obtain⟨rfl,rfl⟩:=hv;rw[hr'] at fin;refine⟨ρ,w,.inl (fin (ρ':=ρ) (v:=.aH) ?_),by rw[bn];exact i,Ext.refl _ _ _ _,by simp[AV.aV]⟩;exact nF (k:=0) (cap:=0) (base:=none) hu hd hsrc hsz hlen hnew (Nat.le_refl _) (fun _ hh=>by simp at hh) (fun _=>rfl)
    |false=>
     simp only[hm0,cond_false] at hv;cases hg:(Nat.ble (m*bytes) 140737488355328&&Nat.ble m 9223372036854775807) with
     |false=>simp[hg] at hv
     |true=>
      simp only[hg,cond_true,Option.some.injEq,Prod.mk.injEq] at hv;obtain⟨rfl,rfl⟩:=hv;simp only[Bool.and_eq_true] at hg;have g1:=Nat.le_of_ble_eq_true hg.1;have g2:=Nat.le_of_ble_eq_true hg.2;have US:m≠0:=by intro e;rw[e] at hm0;simp at hm0
      obtain⟨nc,hnc,hrun⟩:=td (P:=P) (w:=w) (ρ:=ρ) (ty:=o.type) (k:=0) (cap:=0) (base:=none) (old:=#[]) hu hd hsrc hsz hb hz hlen (by simp[Builtin.firstCells]) BH (by omega) (by simpa using g1) (by omega);rw[hr'] at fin;have BC:=qy i (w:=w) e size (nc-m) (Builtin.zeroCells (real ρ z).cells (nc-m)) AI (by rw[jO,dU];simp[aN,hzl]);refine⟨_,_,.inl (fin ?_),BC.1,BC.2,?_⟩
      ·simp only[real,hrun,Nat.zero_add];simp only[Array.empty_append,bM,cond_true,Nat.zero_add,Nat.add_zero]
       congr 2
       omega
      ·simp only[AV.aV,grow];exact .inr ⟨Nat.le_refl _,by simp⟩
   |fY wa=>
    rw[hr'] at hv;simp only at hv;cases hm0:Nat.beq m 0 with
    |true=>
     have hm:=Nat.eq_of_beq_eq_true hm0;subst hm;simp only[hm0,cond_true,Option.some.injEq,Prod.mk.injEq] at hv;obtain⟨rfl,rfl⟩:=hv;rw[hr'] at fin;refine⟨ρ,w,.inl (fin (ρ':=ρ) (v:=.fY wa) ?_),by rw[bn];exact i,Ext.refl _ _ _ _,by simp[AV.aV]⟩;have Jt:new=[]:=List.length_eq_zero_iff.1 (by rw[oH hsc];simp);subst Jt;exact nF (k:=0) (cap:=0) (base:=some wa) hu hd hsrc hsz hlen hnew (Nat.le_refl _) (fun ad hh=>by simp[an,storeCells]) (fun hh=>by simp at hh)
    |false=>
     simp only[hm0,cond_false] at hv;cases hg:(Nat.ble (m*bytes) 140737488355328&&Nat.ble m 9223372036854775807) with
     |false=>simp[hg] at hv
     |true=>
      simp only[hg,cond_true,Option.some.injEq,Prod.mk.injEq] at hv;obtain⟨rfl,rfl⟩:=hv;simp only[Bool.and_eq_true] at hg;have g1:=Nat.le_of_ble_eq_true hg.1;have g2:=Nat.le_of_ble_eq_true hg.2;have US:m≠0:=by intro e;rw[e] at hm0;simp at hm0
      obtain⟨nc,hnc,hrun⟩:=td (P:=P) (w:=w) (ρ:=ρ) (ty:=o.type) (k:=0) (cap:=0) (base:=some wa) (old:=#[]) hu hd hsrc hsz hb hz hlen (by simp[Builtin.firstCells,loadCells,loadCellsFrom]) BH (by omega) (by simpa using g1) (by omega);rw[hr'] at fin;have BC:=qy i (w:=w) e size (nc-m) (Builtin.zeroCells (real ρ z).cells (nc-m)) AI (by rw[jO,dU];simp[aN,hzl]);refine⟨_,_,.inl (fin ?_),BC.1,BC.2,?_⟩
      ·simp only[real,hrun,Nat.zero_add];simp only[Array.empty_append,bM,cond_true,Nat.zero_add,Nat.add_zero]
       congr 2
       omega
      ·simp only[AV.aV,grow];exact .inr ⟨Nat.le_refl _,by simp⟩
   |sl b o' len cap jS=>
    rw[hr'] at hv e1;simp only at hv;simp only[AV.aV] at e1;rw[hr'] at fin;cases yO:(Nat.beq m 0&&Nat.ble len cap) with
    |true=>
     simp only[yO,cond_true,Option.some.injEq,Prod.mk.injEq] at hv;obtain⟨rfl,rfl⟩:=hv;simp only[Bool.and_eq_true] at yO;have hm0:=Nat.eq_of_beq_eq_true yO.1;have aci:=Nat.le_of_ble_eq_true yO.2;subst hm0;have Jt:new=[]:=by
      have hll:=oH hsc;exact List.length_eq_zero_iff.1 (by rw[hll];simp)
     subst Jt;refine⟨ρ,w,.inl (fin (ρ':=ρ) (v:=.sl b o' len cap jS) ?_),by rw[bn];exact i,Ext.refl _ _ _ _,by rw[bn];simpa[AV.aV] using e1.2⟩;simp only[real];refine nF (m:=0) hu hd hsrc hsz hlen hnew ?_ (fun ad hh=>?_) (fun hh=>by simp at hh)
     ·cases jS<;>simp<;>omega
     ·simp[an,storeCells]
    |false=>
    simp only[yO,cond_false] at hv;cases hfit:Nat.ble (len+m) cap with
    |true=>
     have hle:=Nat.le_of_ble_eq_true hfit;simp only[hfit,cond_true,Option.map_eq_some_iff,Prod.mk.injEq] at hv;obtain⟨h2,hst,rfl,rfl⟩:=hv;obtain⟨m0,w',hrun,hinv,mZ⟩:=oI (P:=P) i e1.2 AI hst;refine⟨ρ,w',.inl (fin (ρ':=ρ) (v:=.sl b o' (len+m) cap jS) ?_),by rw[m0,bn];exact hinv,mZ,by rw[m0,bn];simpa[AV.aV] using e1.2⟩;simp only[real];refine nF hu hd hsrc hsz hlen hnew ?_ ?_ (fun hh=>by simp at hh)
     ·cases jS<;>simp<;>omega
     ·intro ad hh;simp only[Option.some.injEq] at hh;subst hh;rw[fh];exact hrun
    |false=>
     have hgt:¬len+m≤cap:=fun hle=>by rw[Nat.ble_eq_true_of_le hle] at hfit;simp at hfit
     simp only[hfit,cond_false] at hv;cases hg:(Nat.ble ((len+m)*bytes) 140737488355328&&Nat.ble (len+m) 9223372036854775807) with
     |false=>simp[hg] at hv
     |true=>
      simp only[hg,cond_true] at hv;simp only[Bool.and_eq_true] at hg;have g1:=Nat.le_of_ble_eq_true hg.1;have g2:=Nat.le_of_ble_eq_true hg.2;cases Bz:h.get b with
      |none=>simp[Bz] at hv
      |some xb=>
       cases xb with
       |cells vs wr es=>
        cases Ac:h.bf b o' (len*size) with
        |none=>simp[Bz,Ac] at hv
        |some old=>
         simp only[Bz,Ac] at hv;have hlo:=cg (P:=P) i e1.2 Ac;have Q8:=cg (P:=P) (sF i) e1.2 Ac;have hcd:bh D (old++new):=by
          rw[aP];intro y hy;rcases List.mem_append.1 hy with hy|hy
          ·exact(aP D _).1 hlo.2 y hy
          ·exact(aP D _).1 AI y hy
         have Pm:∀Ar,¬len+m≤Ar→real ρ (.sl b o' len cap jS)=.slice (some ⟨(ρ b).bJ,(ρ b).off+o',none⟩) len Ar→
           ∃nc,len+m≤nc∧(Builtin.append_ #[t,u] o.type #[real ρ (.sl b o' len cap jS),real ρ (env.ev q)]).run P w=
            .ok (.slice (some ⟨w.heap.size,0,none⟩) (len+m) nc) (w.drew.alloc (.cells ((an ρ (old++new)).toArray++Builtin.zeroCells (real ρ z).cells (nc-(len+m))) e)):=by
          intro Ar hrc U2;obtain⟨nc,hnc,hrun⟩:=td (P:=P) (w:=w) (ρ:=ρ) (ty:=o.type) (k:=len) (cap:=Ar) (base:=some ⟨(ρ b).bJ,(ρ b).off+o',none⟩) (old:=(an ρ old).toArray) hu hd hsrc hsz hb hz hlen
           (by simp only[Builtin.firstCells];exact Q8.1) BH hrc g1 g2
          refine⟨nc,hnc,?_⟩;rw[U2,hrun,kG]
         have Nh:∀(h2:Heap),h2=h.new (.cells (old++new) true size)→∀Ar,¬len+m≤Ar→real ρ (.sl b o' len cap jS)=.slice (some ⟨(ρ b).bJ,(ρ b).off+o',none⟩) len Ar→
           vv P H0 ρ D h w (do pure (.value (←Builtin.append_ #[t,u] o.type #[real ρ (.sl b o' len cap jS),real ρ (env.ev q)])):Sem Next) (.sl h.next 0 (len+m) (len+m) true) h2:=by
          rintro h2 rfl Ar hrc U2;obtain⟨nc,hnc,hrun⟩:=Pm Ar hrc U2;have BC:=qy i (w:=w) e size (nc-(len+m)) (Builtin.zeroCells (real ρ z).cells (nc-(len+m))) hcd (by rw[jO,dU];simp[aN,hzl]);refine⟨_,_,.inl (fin ?_),BC.1,BC.2,?_⟩
          ·rw[hrun];simp only[real,bM,cond_true,Nat.zero_add,Nat.add_zero]
           congr 2
           omega
          ·simp only[AV.aV,grow];exact .inr ⟨Nat.le_refl _,by simp⟩
         cases jS with
         |false=>
          simp only[cond_false,Option.some.injEq,Prod.mk.injEq] at hv;obtain⟨rfl,rfl⟩:=hv;exact Nh _ rfl cap hgt (by simp[real])
         |true=>
          simp only[cond_true] at hv;cases hk:(wr&&Nat.beq vs.length (o'+len*size)&&Nat.beq cap len&&Nat.beq es size) with
          |false=>simp[hk] at hv
          |true=>
           simp only[hk,cond_true,Option.some.injEq,Prod.mk.injEq] at hv;obtain⟨rfl,rfl⟩:=hv;simp only[Bool.and_eq_true] at hk;obtain⟨⟨⟨iO,hvl⟩,kV⟩,Q3⟩:=hk;have hvl:=Nat.eq_of_beq_eq_true hvl;have kV:=Nat.eq_of_beq_eq_true kV;have Q3:=Nat.eq_of_beq_eq_true Q3;subst iO kV Q3;by_cases hroom:cap+m≤cap+(ρ b).extra
           ·
            obtain⟨c',tt,fr,hcell,qP,iG⟩:=i.bJ b _ e1.2 Bz;obtain⟨Uo,ZB,Tc⟩:=iG rfl;have vj:old.length=cap*es:=(gU Ac).1;have hml:new.length=m*es:=by
             cases HI:env.ev q with
             |aH=>rw[HI] at hsc;simp[aS] at hsc;obtain⟨rfl,rfl⟩:=hsc;simp
             |fY wa=>rw[HI] at hsc;simp[aS] at hsc;obtain⟨rfl,rfl⟩:=hsc;simp
             |rest b o j=>rw[HI] at hsc;simp[aS] at hsc;obtain⟨rfl,rfl⟩:=hsc;simp
             |sl b2 o2 l2 c2 XB=>
              rw[HI] at hsc;simp only[aS,Option.map_eq_some_iff,Prod.mk.injEq] at hsc;obtain⟨cs2,UQ,rfl,rfl⟩:=hsc;exact(gU UQ).1
             |str s2=>
              rw[HI] at hsc;simp only[aS] at hsc;cases h1:Nat.beq es 1 with
              |false=>simp[h1] at hsc
              |true=>
               simp only[h1,cond_true,Option.some.injEq,Prod.mk.injEq] at hsc;obtain⟨rfl,rfl⟩:=hsc;rw[Nat.eq_of_beq_eq_true h1];simp
             |_=>rw[HI] at hsc;simp[aS] at hsc
            have aap:h.wr b=true:=by simp[Heap.wr,Bz]
            have hlt:=(Array.getElem?_eq_some_iff.1 hcell).1;have tA:m*es≤(ρ b).extra*es:=Nat.mul_le_mul_right _ (by omega);have hme:m*es+((ρ b).extra-m)*es=(ρ b).extra*es:=by rw[←Nat.add_mul];congr 1;omega
            have hst:=jK (P:=P) (ρ b).bJ tt fr (an ρ new) ((ρ b).off+(o'+cap*es)) 0 c' w hcell (by
              intro y hy;rw[cK] at hy;obtain⟨x',hx',rfl⟩:=List.mem_map.1 hy;exact vP (qu hfl x' hx')) (by rw[aN];omega) Tc
            have gG:∀y,D y→iA ρ h.next ⟨(ρ b).bJ,(ρ b).off+o',(ρ b).extra-m⟩ y=ρ y:=fun y hy=>j9 _ _ (by have:=i.lt y hy;omega);have yM:=Hw i (w':=setRow w (ρ b).bJ (.cells (Heap.splice c'.toList ((ρ b).off+(o'+cap*es)+0) (an ρ new)).toArray tt fr)) (old++new) es ⟨(ρ b).bJ,(ρ b).off+o',(ρ b).extra-m⟩ rfl e1.2 aap (setRow_size _ _ _) (fun r hr=>by rw[dG,if_neg hr]) rfl rfl rfl (by
             refine⟨_,tt,fr,by rw[dG,if_pos rfl,if_pos hlt],?_,fun _=>⟨Uo,?_,?_⟩⟩
             ·intro j y hj;have CB:=(aP D _).1 hcd y (List.mem_of_getElem? hj);rw[cq gG y CB];refine⟨?_,cQ (fun _=>.inl) y CB⟩;rw[List.getElem?_toArray,Heap.eT _ _ _ _ (by simp[aN];omega),aN];by_cases ZX:j<old.length
              ·rw[List.getElem?_append_left ZX] at hj;rw[if_neg (by simp only;omega)];have HG:=(gU Ac).2 j y hj;have hvj:vs[o'+j]?=some y:=by
                simpa[Heap.bY,Heap.row,Bz] using HG
               have:=(qP _ _ hvj).1;simpa[Nat.add_assoc] using this
              ·rw[List.getElem?_append_right (by omega)] at hj;have hjl:j-old.length<new.length:=(List.getElem?_eq_some_iff.1 hj).1;rw[if_pos (by simp only;omega),eA];simp only;rw[show(ρ b).off+o'+j-((ρ b).off+(o'+cap*es)+0)=j-old.length by omega,hj];rfl
             ·simp only[List.size_toArray,Heap.eo,Array.length_toList,List.length_append];omega
             ·simpa[Heap.eo] using Tc)
            refine⟨_,_,.inl (fin (v:=.sl h.next 0 (cap+m) (cap+m) true) ?_),yM.1,yM.2,by simp only[AV.aV,grow];exact .inr ⟨Nat.le_refl _,by simp⟩⟩;have Jm:=nF (P:=P) (ty:=o.type) (base:=some ⟨(ρ b).bJ,(ρ b).off+o',none⟩) (k:=cap) (cap:=cap+(ρ b).extra) hu hd hsrc hsz hlen hnew hroom (fun ad hh=>by
             simp only[Option.some.injEq] at hh;subst hh;rw[fh];exact hst) (fun hh=>by simp at hh)
            simp only[real,cond_true,bM,Jm,Nat.add_zero]
            congr 2
            omega
           ·have ND:=Nb i e1.2;obtain⟨nc,hnc,hrun⟩:=Pm (cap+(ρ b).extra) hroom (by simp[real]);have BC:=qy ND.1 (w:=w) e es (nc-(cap+m)) (Builtin.zeroCells (real ρ z).cells (nc-(cap+m))) hcd (by rw[jO,dU];simp[aN,hzl]);have mZ:=Ext.trans i.lt ND.2 (by rw[show(h.del b).next=h.next from rfl,bn];exact BC.2);refine⟨_,_,.inl (fin ?_),BC.1,mZ,?_⟩
            ·rw[hrun];simp only[real,bM,cond_true,Nat.zero_add,Nat.add_zero,Heap.Ko]
             congr 2
             omega
            ·simp only[AV.aV,grow];exact .inr ⟨Nat.le_refl _,by simp⟩
       |_=>simp[Bz] at hv
   |_=>rw[hr'] at hv;simp at hv
theorem CN{L:Loc}{vs:List AV}{es:Nat}(hx:eL P H0 ρ D L (.cells vs true es) w):eL P H0 ρ D L (.cells vs false es) w:=by
 obtain⟨c,t,fr,h1,h2,_⟩:=hx;exact⟨c,t,fr,h1,h2,fun hf=>by simp at hf⟩
theorem zw{o:Oper}{c:Call}{s x:Operand}{t u:TypeId}{ts:List TypeId}{e:TypeId}{d:TypeDesc}{size bytes:Nat}{z:AV}{rs:List bE}{v:AV}
  (he:bI ρ D n env a)(i:Inv P H0 ρ D h w)(ho:o.op=.call c)(hcb:c.callee=.builtin .append)(hargs:c.args.toList=[s,x])(eU:c.argTypes.toList=t::u::ts)
  (hu:P.underlying t=some (.slice e))(hd:P.underlying u=some d)(hsrc:pO d=true)(hsz:eX P e=some size)(hb:rH P e=some bytes)(hz:mX P e=some z)
  (hzl:z.cells.length=size)(hr:cn [s,x]=some rs)(hv:eK (.append size bytes) (rs.map env.ev) h=some (v,h')):
  vv P H0 ρ D h w (execOp a.eval o) v h':=by
 obtain⟨r,q,rfl,h1,h2⟩:=gx hr;have e1:=aD he h1;have e2:=aD he h2;rw[iw o c .append ho hcb,eB hargs (ys:=[real ρ (env.ev r),real ρ (env.ev q)]) (by simp[e1.1,e2.1])];simp only[List.map_cons,List.map_nil] at hv;have pH:∃ts',c.argTypes=(t::u::ts').toArray:=⟨ts,nI eU⟩;obtain⟨ts',pH⟩:=pH;have z6:∀(x y:Value),Builtin.append_ (t::u::ts').toArray o.type #[x,y]=Builtin.append_ #[t,u] o.type #[x,y]:=by
  intro x y;simp[Builtin.append_]
 rw[pH];have yK:∀(l:Array Bool) (xs:List Value),builtin .append (t::u::ts').toArray o.type l xs.toArray=(do pure (.value (←Builtin.append_ (t::u::ts').toArray o.type xs.toArray))):=fun _ _=>rfl;rw[yK];rw[show([real ρ (env.ev r),real ρ (env.ev q)]:List Value).toArray=#[real ρ (env.ev r),real ρ (env.ev q)] from rfl,z6];have fin:∀{ρ':cI} {w':World} {v:AV},(Builtin.append_ #[t,u] o.type #[real ρ (env.ev r),real ρ (env.ev q)]).run P w=.ok (real ρ' v) w'→
   (do pure (.value (←Builtin.append_ #[t,u] o.type #[real ρ (env.ev r),real ρ (env.ev q)])):Sem Next).run P w=.ok (.value (real ρ' v)) w':=by
  intro ρ' w' v hh;rw[Sem.run_bind,hh];rfl
 cases hr':env.ev r with
 |sl b o' len cap jS=>
  cases jS with
  |false=>rw[hr'] at hv;simp[eK] at hv
  |true=>
  rw[hr'] at hv e1;simp only[AV.aV] at e1;rw[hr'] at fin;simp only[eK] at hv;cases hsc:aS size h (env.ev q) with
  |none=>simp[hsc] at hv
  |some km=>
   obtain⟨m,new⟩:=km;simp only[hsc] at hv;have hs:=mz (P:=P) i e2.2 hsc;have hs':=mz (P:=P) (sF i) e2.2 hsc;obtain⟨hlen,AI,_,hnew⟩:=hs;have BH:=hs'.2.2.2;split at hv
   ·rename_i vs es old Bz Ac;cases hk:(bz new&&(!Nat.beq m 0&&Nat.ble ((len+m)*bytes) 140737488355328&&Nat.ble (len+m) 9223372036854775807)&&(Nat.beq vs.length (o'+len*size)&&Nat.beq cap len&&Nat.beq es size)) with
    |false=>simp[hk] at hv
    |true=>
     simp only[hk,cond_true,Option.some.injEq,Prod.mk.injEq] at hv;obtain⟨rfl,rfl⟩:=hv;simp only[Bool.and_eq_true] at hk;obtain⟨⟨hfl,⟨hm0,g1⟩,g2⟩,⟨hvl,kV⟩,Q3⟩:=hk;have g1:=Nat.le_of_ble_eq_true g1;have g2:=Nat.le_of_ble_eq_true g2;have hvl:=Nat.eq_of_beq_eq_true hvl;have kV:=Nat.eq_of_beq_eq_true kV;have Q3:=Nat.eq_of_beq_eq_true Q3;subst kV Q3;have US:m≠0:=by rintro rfl;simp at hm0
     have hlo:=cg (P:=P) i e1.2 Ac;have Q8:=cg (P:=P) (sF i) e1.2 Ac;have hcd:bh D (old++new):=by
      rw[aP];intro y hy;rcases List.mem_append.1 hy with hy|hy
      ·exact(aP D _).1 hlo.2 y hy
      ·exact(aP D _).1 AI y hy
     obtain⟨c',tt,fr,hcell,qP,iG⟩:=i.bJ b _ e1.2 Bz;obtain⟨Uo,ZB,Tc⟩:=iG rfl;have vj:old.length=cap*es:=(gU Ac).1;have hlt:=(Array.getElem?_eq_some_iff.1 hcell).1;have hml:new.length=m*es:=oH hsc;by_cases hroom:cap+m≤cap+(ρ b).extra
     ·
      have tA:m*es≤(ρ b).extra*es:=Nat.mul_le_mul_right _ (by omega);have hst:=jK (P:=P) (ρ b).bJ tt fr (an ρ new) ((ρ b).off+(o'+cap*es)) 0 c' w hcell (by
        intro y hy;rw[cK] at hy;obtain⟨x',hx',rfl⟩:=List.mem_map.1 hy;exact vP (qu hfl x' hx')) (by rw[aN];omega) Tc
      have gG:∀y,D y→iA ρ h.next ⟨(ρ b).bJ,(ρ b).off+o',(ρ b).extra-m⟩ y=ρ y:=fun y hy=>j9 _ _ (by have:=i.lt y hy;omega);have yM:=xj i (w':=setRow w (ρ b).bJ (.cells (Heap.splice c'.toList ((ρ b).off+(o'+cap*es)+0) (an ρ new)).toArray tt fr)) Bz (old++new) es ⟨(ρ b).bJ,(ρ b).off+o',(ρ b).extra-m⟩ (.inl rfl) e1.2
       (Nat.le_of_eq (setRow_size _ _ _).symm) (fun r _ hr=>by rw[dG,if_neg hr]) rfl rfl rfl
       (by
        refine⟨_,tt,fr,by rw[dG,if_pos rfl,if_pos hlt],?_,fun hf=>by simp at hf⟩;intro j y hj;have hjl:j<vs.length:=(List.getElem?_eq_some_iff.1 hj).1;have hy:=qP j y hj;rw[cq gG y hy.2];refine⟨?_,cQ (fun _=>.inl) y hy.2⟩;rw[List.getElem?_toArray,Heap.eT _ _ _ _ (by simp[aN];omega),if_neg (by omega)];simpa using hy.1)
       (by
        refine⟨_,tt,fr,by rw[dG,if_pos rfl,if_pos hlt],?_,fun hf=>by simp at hf⟩;intro j y hj;have CB:=(aP D _).1 hcd y (List.mem_of_getElem? hj);rw[cq gG y CB];refine⟨?_,cQ (fun _=>.inl) y CB⟩;rw[List.getElem?_toArray,Heap.eT _ _ _ _ (by simp[aN];omega),aN];by_cases ZX:j<old.length
        ·rw[List.getElem?_append_left ZX] at hj;rw[if_neg (by simp only;omega)];have HG:=(gU Ac).2 j y hj;have hvj:vs[o'+j]?=some y:=by
          simpa[Heap.bY,Heap.row,Bz] using HG
         have:=(qP _ _ hvj).1;simpa[Nat.add_assoc] using this
        ·rw[List.getElem?_append_right (by omega)] at hj;have hjl:j-old.length<new.length:=(List.getElem?_eq_some_iff.1 hj).1;rw[if_pos (by simp only;omega),eA];simp only;rw[show(ρ b).off+o'+j-((ρ b).off+(o'+cap*es)+0)=j-old.length by omega,hj];rfl)
      refine⟨_,_,.inl (fin (v:=.sl h.next 0 (cap+m) (cap+m) true) ?_),yM.1,yM.2,by simp only[AV.aV,grow];exact .inr ⟨Nat.le_refl _,by simp⟩⟩;have Jm:=nF (P:=P) (ty:=o.type) (base:=some ⟨(ρ b).bJ,(ρ b).off+o',none⟩) (k:=cap) (cap:=cap+(ρ b).extra) hu hd hsrc hsz hlen hnew hroom (fun ad hh=>by
       simp only[Option.some.injEq] at hh;subst hh;rw[fh];exact hst) (fun hh=>by simp at hh)
      simp only[real,cond_true,bM,Jm,Nat.add_zero]
      congr 2
      omega
     ·obtain⟨nc,hnc,hrun⟩:=td (P:=P) (w:=w) (ρ:=ρ) (ty:=o.type) (k:=cap) (cap:=cap+(ρ b).extra) (base:=some ⟨(ρ b).bJ,(ρ b).off+o',none⟩) (old:=(an ρ old).toArray) hu hd hsrc hsz hb hz hlen
       (by simp only[Builtin.firstCells];exact Q8.1) BH hroom g1 g2
      rw[kG] at hrun;have gG:∀y,D y→iA ρ h.next ⟨w.heap.size,0,nc-(cap+m)⟩ y=ρ y:=fun y hy=>j9 _ _ (by have:=i.lt y hy;omega);have UX:=jW w.drew (.cells ((an ρ (old++new)).toArray++Builtin.zeroCells (real ρ z).cells (nc-(cap+m))) e);have PD:∀r,r<w.heap.size→(w.drew.alloc (.cells ((an ρ (old++new)).toArray++Builtin.zeroCells (real ρ z).cells (nc-(cap+m))) e)).heap[r]?=w.heap[r]?:=by
       intro r hr;rw[show(w.drew.alloc (.cells ((an ρ (old++new)).toArray++Builtin.zeroCells (real ρ z).cells (nc-(cap+m))) e)).heap=w.heap.push (.cells ((an ρ (old++new)).toArray++Builtin.zeroCells (real ρ z).cells (nc-(cap+m))) e) from rfl,Array.getElem?_push,if_neg (by omega)]
      have yM:=xj i (w':=w.drew.alloc (.cells ((an ρ (old++new)).toArray++Builtin.zeroCells (real ρ z).cells (nc-(cap+m))) e)) Bz (old++new) es ⟨w.heap.size,0,nc-(cap+m)⟩ (.inr (Nat.le_refl _)) e1.2
       (by rw[show(w.drew.alloc (.cells ((an ρ (old++new)).toArray++Builtin.zeroCells (real ρ z).cells (nc-(cap+m))) e)).heap=w.heap.push (.cells ((an ρ (old++new)).toArray++Builtin.zeroCells (real ρ z).cells (nc-(cap+m))) e) from rfl,Array.size_push];omega) (fun r hr _=>PD r hr) rfl rfl rfl
       (bO (CN (i.bJ b _ e1.2 Bz)) (fun _=>.inl) gG (PD _ hlt))
       (by
        refine⟨_,e,(0,0),UX,?_,fun hf=>by simp at hf⟩;intro j y hj;have hjl:j<(old++new).length:=(List.getElem?_eq_some_iff.1 hj).1;have CB:=(aP D _).1 hcd y (List.mem_of_getElem? hj);refine⟨?_,cQ (fun _=>.inl) y CB⟩;rw[cq gG y CB];simp only[Nat.zero_add];rw[Array.getElem?_append_left (by simp[aN];simpa using hjl),List.getElem?_toArray,eA,hj];rfl)
      refine⟨_,_,.inl (fin (v:=.sl h.next 0 (cap+m) (cap+m) true) ?_),yM.1,yM.2,by simp only[AV.aV,grow];exact .inr ⟨Nat.le_refl _,by simp⟩⟩;rw[show real ρ (.sl b o' cap cap true)=.slice (some ⟨(ρ b).bJ,(ρ b).off+o',none⟩) cap (cap+(ρ b).extra) by simp[real],hrun];simp only[real,bM,cond_true,Nat.zero_add,Nat.add_zero]
      congr 2
      omega
   ·simp at hv
 |_=>rw[hr'] at hv;simp[eK] at hv
theorem Gd{o:Oper}{c:Call}{s x:Operand}{t:TypeId}{ts:List TypeId}{e:TypeId}{size:Nat}{rs:List bE}{v:AV}{op:xB}
  (he:bI ρ D n env a)(i:Inv P H0 ρ D h w)(ho:o.op=.call c)(hcb:c.callee=.builtin .copy)(hargs:c.args.toList=[s,x])(eU:c.argTypes.toList=t::ts)
  (hu:P.underlying t=some (.slice e))(hsz:eX P e=some size)(hc:one (.e (.copy size)) [s,x]=some (.e op,rs))(hv:eI op (rs.map env.ev) h=some (v,h')):
  vv P H0 ρ D h w (execOp a.eval o) v h':=by
 obtain⟨hq,hr⟩:=aT hc;simp only[fZ.e.injEq] at hq;subst hq;obtain⟨r,q,rfl,h1,h2⟩:=gx hr;have e1:=aD he h1;have e2:=aD he h2;rw[iw o c .copy ho hcb,eB hargs (ys:=[real ρ (env.ev r),real ρ (env.ev q)]) (by simp[e1.1,e2.1])];simp only[List.map_cons,List.map_nil,eI] at hv;have yK:∀(l:Array Bool) (xs:List Value),builtin .copy c.argTypes o.type l xs.toArray=(do pure (.value (←Builtin.copy_ c.argTypes o.type xs.toArray))):=fun _ _=>rfl;rw[yK,nI eU];have Ru:(sizeOf e).run P w=.ok size w:=run_sizeOf hsz;cases hr':env.ev r with
 |aH=>
  rw[hr'] at hv;cases hsc:aS size h (env.ev q) with
  |none=>simp[hsc] at hv
  |some km=>
   obtain⟨m,new⟩:=km;simp only[hsc,Option.some.injEq,Prod.mk.injEq] at hv;obtain⟨rfl,rfl⟩:=hv;obtain⟨hlen,AI,uG,hnew⟩:=mz (P:=P) i e2.2 hsc;have h0:(Builtin.firstCells size 0 (real ρ (env.ev q))).run P w=.ok #[] w:=by
    cases hq:env.ev q with
    |str s'=>simp[real,Builtin.firstCells]
    |sl b o l c op=>
     have:=uG (fun s e=>by rw[hq] at e;simp at e) 0 (Nat.zero_le _);rw[hq] at this;simpa[an] using this
    |aH=>simp[real,Builtin.firstCells]
    |fY wa=>simp[real,Builtin.firstCells,loadCells,loadCellsFrom]
    |rest b o j=>simp[real,Builtin.firstCells,loadCells,loadCellsFrom]
    |_=>rw[hq] at hsc;simp[aS] at hsc
   refine⟨ρ,w,.inl ?_,by rw[bn];exact i,Ext.refl _ _ _ _,by simp[AV.aV]⟩;simp[Builtin.copy_,run_underlying hu,hlen,Ru,real,Result.andThen,h0,goInt]
 |fY wa=>
  rw[hr'] at hv;cases hsc:aS size h (env.ev q) with
  |none=>simp[hsc] at hv
  |some km=>
   obtain⟨m,new⟩:=km;simp only[hsc,Option.some.injEq,Prod.mk.injEq] at hv;obtain⟨rfl,rfl⟩:=hv;obtain⟨hlen,AI,uG,hnew⟩:=mz (P:=P) i e2.2 hsc;have h0:(Builtin.firstCells size 0 (real ρ (env.ev q))).run P w=.ok #[] w:=by
    cases hq:env.ev q with
    |str s'=>simp[real,Builtin.firstCells]
    |sl b o l c op=>
     have:=uG (fun s e=>by rw[hq] at e;simp at e) 0 (Nat.zero_le _);rw[hq] at this;simpa[an] using this
    |aH=>simp[real,Builtin.firstCells]
    |fY wa=>simp[real,Builtin.firstCells,loadCells,loadCellsFrom]
    |rest b o j=>simp[real,Builtin.firstCells,loadCells,loadCellsFrom]
    |_=>rw[hq] at hsc;simp[aS] at hsc
   refine⟨ρ,w,.inl ?_,by rw[bn];exact i,Ext.refl _ _ _ _,by simp[AV.aV]⟩;simp[Builtin.copy_,run_underlying hu,hlen,Ru,real,Result.andThen,h0,goInt,storeCells]
 |sl b o' len cap jS=>
  rw[hr'] at hv e1;simp only[AV.aV] at e1;cases hsc:aS size h (env.ev q) with
  |none=>simp[hsc] at hv
  |some km=>
   obtain⟨m,new⟩:=km;simp only[hsc,Option.map_eq_some_iff,Prod.mk.injEq] at hv;obtain⟨h2,hst,rfl,rfl⟩:=hv;obtain⟨hlen,AI,uG,hnew⟩:=mz (P:=P) i e2.2 hsc;have htd:bh D (new.take (min m len*size)):=by
    rw[aP] at AI⊢;exact fun y hy=>AI y (List.mem_of_mem_take hy)
   have hfc:(Builtin.firstCells size (min m len) (real ρ (env.ev q))).run P w=.ok (an ρ (new.take (min m len*size))).toArray w:=by
    cases hq:env.ev q with
    |str s'=>
     rw[hq] at hsc;simp only[aS] at hsc;cases h1:Nat.beq size 1 with
     |false=>simp[h1] at hsc
     |true=>
      simp only[h1,cond_true,Option.some.injEq,Prod.mk.injEq] at hsc;obtain⟨rfl,rfl⟩:=hsc;have BJ:=Nat.eq_of_beq_eq_true h1;subst BJ;simp only[Builtin.firstCells,real,Sem.run_pure]
      congr 1
      have:(⟨s'.toArray⟩:ByteArray).extract 0 (min s'.length len)=⟨(s'.take (min s'.length len)).toArray⟩:=by
       apply ByteArray.ext;rw[ByteArray.data_extract];apply Array.ext';simp[List.extract_eq_take_drop]
      rw[this];apply Array.ext';simp[cK,real,Function.comp_def,List.map_take]
    |sl b2 o2 l2 c2 XB=>
     have:=uG (fun s e=>by rw[hq] at e;simp at e) (min m len) (Nat.min_le_left _ _);rw[hq] at this;exact this
    |aH=>
     have:=uG (fun s e=>by rw[hq] at e;simp at e) (min m len) (Nat.min_le_left _ _);rw[hq] at this;exact this
    |fY wa=>
     have:=uG (fun s e=>by rw[hq] at e;simp at e) (min m len) (Nat.min_le_left _ _);rw[hq] at this;exact this
    |rest rb ro rk=>
     have:=uG (fun s e=>by rw[hq] at e;simp at e) (min m len) (Nat.min_le_left _ _);rw[hq] at this;exact this
    |_=>rw[hq] at hsc;simp[aS] at hsc
   obtain⟨m0,w',hrun,hinv,mZ⟩:=oI (P:=P) i e1.2 htd hst;refine⟨ρ,w',.inl ?_,by rw[m0,bn];exact hinv,mZ,by simp[AV.aV]⟩;simp only[real] at hlen hfc⊢;simp[Builtin.copy_,run_underlying hu,hlen,Ru,Result.andThen,hfc,hrun,goInt];show((min m len:Nat):Int)=min (m:Int) len;omega
 |_=>
  rw[hr'] at hv;cases hsc:aS size h (env.ev q) with
  |none=>simp[hsc] at hv
  |some km=>simp[hsc] at hv
theorem wO{k v:AV}{p:AV×AV}:∀{es:List (AV×AV)},p∈putKey k v es→p=(k,v)∨p∈es
 |[],h=>by simp[putKey] at h;exact .inl h
 |(x,u)::es,h=>by
  simp only[putKey] at h;split at h
  ·rcases List.mem_cons.1 h with h|h
   ·exact .inl h
   ·exact .inr (List.mem_cons_of_mem _ h)
  ·rcases List.mem_cons.1 h with h|h
   ·exact .inr (h▸List.mem_cons_self)
   ·rcases wO h with h|h
    ·exact .inl h
    ·exact .inr (List.mem_cons_of_mem _ h)
theorem EV(i:Inv P H0 ρ D h w){t kt e:TypeId}{kk:IntKind}(hu:P.underlying t=some (.map kt e))(hk:P.underlying kt=some (.int kk)){b:Nat}{k v:AV}(hb:D b)(ZZ:k.aV D)(Lv:v.aV D){es:List (AV×AV)}{bs:List Nat}{c:Nat}{r:Option AV}(hg:h.get b=some (.map es bs c))(hf:findKey k es=some r):
  ∃w',(Instr.mapUpdate t (.map (some (ρ b).bJ)) (real ρ k) (real ρ v)).run P w=.ok () w'∧Inv P H0 ρ D (h.set b (.map (putKey k v es) (oM r bs c) (vH r c))) w'∧Ext ρ D h w ρ (h.set b (.map (putKey k v es) (oM r bs c) (vH r c))) w':=by
 obtain⟨ms,clock,hcell,rO,tA,vX,Cz,vh⟩:=i.bJ b _ hb hg;have cu:(getObj (ρ b).bJ).run P w=.ok (.map ms clock) w:=by simp[getObj,Sem.run,hcell]
 have iY:∀o',(setObj (ρ b).bJ o').run P w=.ok () {w with heap:=w.heap.setIfInBounds (ρ b).bJ o'}:=by intro o';simp[setObj,Sem.run,hcell]
 have hlt:=(Array.getElem?_eq_some_iff.1 hcell).1;have iO:h.wr b=true:=by simp[Heap.wr,hg]
 have jF:∀ms' clock',ms'.toList.map (fun m=>(m.key,m.val))=(putKey k v es).map (fun p=>(real ρ p.1,real ρ p.2))→clock'=vH r c→ms'.toList.map (fun m=>m.born)=oM r bs c→
   Inv P H0 ρ D (h.set b (.map (putKey k v es) (oM r bs c) (vH r c))) {w with heap:=w.heap.setIfInBounds (ρ b).bJ (.map ms' clock')}∧Ext ρ D h w ρ (h.set b (.map (putKey k v es) (oM r bs c) (vH r c))) {w with heap:=w.heap.setIfInBounds (ρ b).bJ (.map ms' clock')}:=by
  intro ms' clock' Rb ie hb';refine qa i hb iO rfl (by simp) (fun r hr=>by simp[Array.getElem?_setIfInBounds,Ne.symm hr]) rfl rfl rfl ?_;refine⟨ms',clock',by simp[Array.getElem?_setIfInBounds,hlt],rO,Rb,?_,ie,hb'⟩;intro p hp;rcases wO hp with rfl|hp
  ·exact⟨ZZ,Lv⟩
  ·exact vX p hp
 have hn:=lg (ρ:=ρ) (kk:=kk) (v:=v) es ms.toList 0 tA hf;cases r with
 |none=>
  obtain⟨f1,f2⟩:=hn;refine⟨_,?_,jF (ms.push {key:=real ρ k,val:=real ρ v,born:=clock}) (clock+1) ?_ (by rw[Cz];rfl) (by simp[vh,Cz,oM])⟩
  ·simp only[Instr.mapUpdate,Sem.run_bind,run_underlying hu,Result.andThen,cu,r8 hk,run_findKey hk f1,iY]
  ·rw[f2];simp[tA]
 |some u=>
  obtain⟨j,f1,f2,-,⟨kd,kn,hkn⟩,f3⟩:=hn;have hj:((ms[j]?).map (·.key)).getD (real ρ k)=real ρ k:=by
   rw[Array.getElem?_toList] at f2;rw[f2];rfl
  refine⟨_,?_,jF (ms.modify j fun e=>{e with key:=real ρ k,val:=real ρ v}) clock ?_ (by rw[Cz];rfl) ?_⟩
  ·have hst:(Instr.keyThatStays (real ρ k) (real ρ k)).run P w=.ok (real ρ k) w:=by
    subst hkn;simp[Instr.keyThatStays,real,Instr.sameBits]
   simp only[Instr.mapUpdate,Sem.run_bind,run_underlying hu,Result.andThen,cu,r8 hk,run_findKey hk f1,Nat.zero_add,hj,hst,iY]
  ·rw[←f3];simp
  ·show _=bs;rw[←vh];apply List.ext_getElem?;intro n;simp only[Array.toList_modify,List.getElem?_map,List.getElem?_modify];split<;>cases(ms.toList)[n]?<;>rfl
theorem Bf{kk:IntKind}{k:AV}:∀(es:List (AV×AV)) (bs:List Nat) (ms:List MapEntry) (i:Nat) {r:Option AV},ms.map (fun m=>(m.key,m.val))=es.map (fun p=>(real ρ p.1,real ρ p.2))→ms.map (fun m=>m.born)=bs→findKey k es=some r→
  match r with
  |none=>Instr.findNow (.int kk) (real ρ k) ms i=some none∧delKey k es=es∧mL k es bs=bs
  |some _=>∃j u',Instr.findNow (.int kk) (real ρ k) ms i=some (some (i+j,u'))∧j<ms.length∧(ms.eraseIdx j).map (fun m=>(m.key,m.val))=(delKey k es).map (fun p=>(real ρ p.1,real ρ p.2))∧(ms.eraseIdx j).map (fun m=>m.born)=mL k es bs
 |[],bs,ms,i,r,hm,hb,hf=>by
  simp only[findKey,Option.some.injEq] at hf;subst hf;have:ms=[]:=by simpa using hm
  subst this;exact⟨rfl,rfl,by simp at hb;subst hb;rfl⟩
 |(x,u)::es,bs,ms,i,r,hm,hb,hf=>by
  cases ms with
  |nil=>simp at hm
  |cons m ms=>
   cases bs with
   |nil=>simp at hb
   |cons b bs=>
   simp only[List.map_cons,List.cons.injEq,Prod.mk.injEq] at hm hb;obtain⟨⟨h1,h2⟩,h3⟩:=hm;simp only[findKey] at hf;split at hf
   ·rename_i he;simp only[Option.some.injEq] at hf;subst hf;have hs:=tg (ρ:=ρ) (kk:=kk) he;refine⟨0,m.val,by simp only[Instr.findNow,h1,hs,Nat.add_zero],by simp,?_,?_⟩
    ·simp only[delKey,he,List.eraseIdx_cons_zero,h3]
    ·simp only[mL,he,List.eraseIdx_cons_zero,hb.2]
   ·rename_i he;have hs:=tg (ρ:=ρ) (kk:=kk) he;have ih:=Bf (kk:=kk) es bs ms (i+1) h3 hb.2 hf;cases r with
    |none=>
     simp only at ih⊢;exact⟨by simp only[Instr.findNow,h1,hs];exact ih.1,by simp only[delKey,he,ih.2.1],by simp only[mL,he,ih.2.2]⟩
    |some u'=>
     simp only at ih⊢;obtain⟨j,v',i1,i2,i3,i4⟩:=ih;refine⟨j+1,v',?_,by simpa using i2,?_,?_⟩
     ·simp only[Instr.findNow,h1,hs];rw[i1]
      congr 3
      omega
     ·simp only[delKey,he,List.eraseIdx_cons_succ,List.map_cons,i3,h1,h2]
     ·simp only[mL,he,List.eraseIdx_cons_succ,List.map_cons,i4,hb.1]
   ·simp at hf
theorem vJ{k:AV}{p:AV×AV}:∀{es:List (AV×AV)},p∈delKey k es→p∈es
 |[],h=>by simp[delKey] at h
 |(x,u)::es,h=>by
  simp only[delKey] at h;split at h
  ·exact List.mem_cons_of_mem _ h
  ·rcases List.mem_cons.1 h with h|h
   ·exact h▸List.mem_cons_self
   ·exact List.mem_cons_of_mem _ (vJ h)
theorem Kk(i:Inv P H0 ρ D h w){t kt e:TypeId}{ty:TypeId}{ts:List TypeId}{kk:IntKind}(hu:P.underlying t=some (.map kt e))(hk:P.underlying kt=some (.int kk)){b:Nat}{k:AV}(hb:D b){es:List (AV×AV)}{bs:List Nat}{c:Nat}{r:Option AV}(hg:h.get b=some (.map es bs c))(hf:findKey k es=some r):
  ∃w',(Builtin.delete_ (t::ts).toArray ty #[.map (some (ρ b).bJ),real ρ k]).run P w=.ok (.tuple #[]) w'∧Inv P H0 ρ D (h.set b (.map (delKey k es) (mL k es bs) c)) w'∧Ext ρ D h w ρ (h.set b (.map (delKey k es) (mL k es bs) c)) w':=by
 obtain⟨ms,clock,hcell,rO,tA,vX,Cz,vh⟩:=i.bJ b _ hb hg;have cu:(getObj (ρ b).bJ).run P w=.ok (.map ms clock) w:=by simp[getObj,Sem.run,hcell]
 have iY:∀o',(setObj (ρ b).bJ o').run P w=.ok () {w with heap:=w.heap.setIfInBounds (ρ b).bJ o'}:=by intro o';simp[setObj,Sem.run,hcell]
 have hlt:=(Array.getElem?_eq_some_iff.1 hcell).1;have iO:h.wr b=true:=by simp[Heap.wr,hg]
 have jF:∀ms':Array MapEntry,ms'.toList.map (fun m=>(m.key,m.val))=(delKey k es).map (fun p=>(real ρ p.1,real ρ p.2))→ms'.toList.map (fun m=>m.born)=mL k es bs→
   Inv P H0 ρ D (h.set b (.map (delKey k es) (mL k es bs) c)) {w with heap:=w.heap.setIfInBounds (ρ b).bJ (.map ms' clock)}∧Ext ρ D h w ρ (h.set b (.map (delKey k es) (mL k es bs) c)) {w with heap:=w.heap.setIfInBounds (ρ b).bJ (.map ms' clock)}:=by
  intro ms' Rb hb';refine qa i hb iO rfl (by simp) (fun r hr=>by simp[Array.getElem?_setIfInBounds,Ne.symm hr]) rfl rfl rfl ?_;exact⟨ms',clock,by simp[Array.getElem?_setIfInBounds,hlt],rO,Rb,fun p hp=>vX p (vJ hp),Cz,hb'⟩
 have hn:=Bf (ρ:=ρ) (kk:=kk) es bs ms.toList 0 tA vh hf;cases r with
 |none=>
  obtain⟨f1,f2,f3⟩:=hn;refine⟨_,?_,jF ms (by rw[f2];exact tA) (by rw[f3];exact vh)⟩;simp only[Builtin.delete_,List.getElem?_toArray,List.getElem?_cons_zero,List.getElem?_cons_succ,Sem.run_bind,run_underlying hu,Result.andThen,cu,r8 hk,run_findKey hk f1,iY,Sem.run_pure]
 |some u=>
  obtain⟨j,u',f1,f2,f3,f4⟩:=hn;have he:(ms.eraseIdxIfInBounds j).toList=ms.toList.eraseIdx j:=by simp[Array.eraseIdxIfInBounds,show j<ms.size from f2]
  refine⟨_,?_,jF (ms.eraseIdxIfInBounds j) (by rw[he];exact f3) (by rw[he];exact f4)⟩;simp only[Builtin.delete_,List.getElem?_toArray,List.getElem?_cons_zero,List.getElem?_cons_succ,Sem.run_bind,run_underlying hu,Result.andThen,cu,r8 hk,run_findKey hk f1,Nat.zero_add,iY,Sem.run_pure]
theorem Gb(i:Inv P H0 ρ D h w){b o len:Nat}{zs:List AV}(hb:D b)(hz:bh D zs)(hs:h.di b o (dH zs len)=some h'):
  h'.next=h.next∧∃w',(storeCells ⟨(ρ b).bJ,(ρ b).off+o,none⟩ (an ρ (dH zs len))).run P w=.ok () w'∧Inv P H0 ρ D h' w'∧Ext ρ D h w ρ h' w':=by
 refine oI i hb ?_ hs;rw[aP];intro x hx;obtain⟨j,hj⟩:=List.mem_iff_getElem?.1 hx;have hl:j<len*zs.length:=by
  have:=(List.getElem?_eq_some_iff.1 hj).1
  rwa [eW] at this
 rw[mE zs len j hl] at hj;exact(aP D zs).1 hz x (List.mem_of_getElem? hj)
theorem Bt(b:Nat):∀(l:List Nat),tY b l=true↔b∈l
 |[]=>by simp[tY]
 |c::l=>by
  simp only[tY];cases hc:Nat.beq c b with
  |true=>have:=Nat.eq_of_beq_eq_true hc;simp[this]
  |false=>
   have:c≠b:=fun e=>by rw[e,Nat.beq_refl] at hc;simp at hc
   simp only[cond_false,Bt b l,List.mem_cons];exact⟨.inr,fun h=>h.resolve_left fun e=>this e.symm⟩
theorem qY{sn:Array Nat}{seen:List Nat}(hs:sn.toList=seen)(b:Nat):sn.contains b=tY b seen:=by
 rw[Bool.eq_iff_iff,Bt,←hs];simp
theorem yT{sn:Array Nat}{seen bs:List Nat}{ms:Array MapEntry}(hs:sn.toList=seen)(hb:ms.toList.map (fun m=>m.born)=bs):(leftOf ms sn).toList.map (fun m=>m.born)=oQ seen bs:=by
 have hc:(fun e:MapEntry=>!sn.contains e.born)=fun e=>!tY e.born seen:=funext fun e=>by rw[qY hs]
 unfold leftOf;rw[Array.toList_filter,←hb,hc];generalize ms.toList=l;induction l with
 |nil=>rfl
 |cons m l ih=>
  simp only[List.filter_cons,List.map_cons,oQ];cases hh:tY m.born seen with
  |true=>simpa[hh] using ih
  |false=>simpa[hh] using ih
theorem vB{last:Nat}:∀{l:List MapEntry},AT last (l.map fun m=>m.born)=true→l.all (fun x=>decide (x.born≥last))=false
 |[],h=>by simp[AT] at h
 |m::l,h=>by
  simp only[List.map_cons,AT] at h;cases hb:Nat.ble (m.born+1) last with
  |true=>
   have:=Nat.le_of_ble_eq_true hb;have:¬last≤m.born:=by omega
   simp[this]
  |false=>
   rw[hb] at h;simp only[cond_false] at h;simp only[List.all_cons,vB h,Bool.and_false]
theorem uI{sn:Array Nat}{seen bs:List Nat}{last:Nat}{ms:Array MapEntry}(hs:sn.toList=seen)(hb:ms.toList.map (fun m=>m.born)=bs)(h:pP seen last bs=true):
  (!sn.isEmpty&&!ms.isEmpty&&ms.all fun x=>decide (x.born≥last))=false:=by
 unfold pP at h;simp only[Bool.or_eq_true] at h;rcases h with(h|h)|h
 ·have:sn.isEmpty=true:=by rw[←Array.isEmpty_toList,hs];exact h
  simp[this]
 ·have:ms.isEmpty=true:=by
   rw[←Array.isEmpty_toList];rw[List.isEmpty_iff] at h⊢;rw[h] at hb;simpa using hb
  simp[this]
 ·rw[←hb] at h;have:=vB h;rw[Array.all_toList] at this;rw[this];simp
theorem GV(w:World)(ty:TypeId){r bm since c0:Nat}{seen:Array Nat}{es:Array MapEntry}{clock:Nat}
  (hr:w.heap[r]?=some (.mapIter (some bm) since seen c0))(hb:w.heap[bm]?=some (.map es clock))(ht:(!seen.isEmpty&&!es.isEmpty&&es.all fun x=>decide (x.born≥c0))=false)(hl:leftOf es seen=#[]):
  (Instr.next (.pointer (some ⟨r,0,none⟩)) false ty).run P w=.ok (.tuple #[.bool false]) w:=by
 unfold leftOf at hl;simp only[Instr.next,getObj,Sem.run_bind,Sem.run,hr,hb,Result.andThen,ht,Bool.false_eq_true,if_false,hl];simp[choose,Sem.run,Question.forced]
theorem GW(w:World)(ty:TypeId){r bm since c0:Nat}{seen:Array Nat}{es:Array MapEntry}{clock:Nat}
  (hr:w.heap[r]?=some (.mapIter (some bm) since seen c0))(hb:w.heap[bm]?=some (.map es clock))(ht:(!seen.isEmpty&&!es.isEmpty&&es.all fun x=>decide (x.born≥c0))=false)
  (hmem:∀x∈(leftOf es seen).toList,x.born<since)(h0:(leftOf es seen).size≠0):
  ∃e∈(leftOf es seen).toList,∃w1:World,(w1=w∨w1=w.drew)∧(Instr.next (.pointer (some ⟨r,0,none⟩)) false ty).run P w=.ok (.tuple #[.bool true,e.key,e.val]) {w1 with heap:=w1.heap.setIfInBounds r (.mapIter (some bm) since (seen.push e.born) clock)}:=by
 simp only[Instr.next,getObj,Sem.run_bind,Sem.run,hr,hb,Result.andThen,ht,Bool.false_eq_true,if_false];unfold leftOf at hmem h0⊢;generalize Array.filter (fun e=>!seen.contains e.born) es=L at hmem h0⊢;have e1:L.filter (fun x=>decide (x.born<since))=L:=Array.filter_eq_self.2 (fun x hx=>by simpa using hmem x (by simpa using hx));have e2:L.filter (fun x=>decide (x.born≥since))=#[]:=by
  rw[Array.filter_eq_empty_iff];intro x hx;have:=hmem x (by simpa using hx);simp;omega
 simp only[e1,e2,Array.append_empty];have hne:L.isEmpty=false:=by simp[Array.isEmpty,h0]
 simp only[hne,Bool.false_eq_true,if_false,Array.empty_append,Array.size_map];have ZL:∃(j:Nat) (w1:World),j<L.size∧(w1=w∨w1=w.drew)∧(choose (Question.mapNext L.size)).run P w=.ok j w1:=by
  by_cases hf:L.size≤1
  ·exact⟨0,w,by omega,Or.inl rfl,by simp[choose,Sem.run,Question.forced,hf]⟩
  ·exact⟨_,w.drew,Nat.mod_lt _ (by omega),Or.inr rfl,by
    simp only[choose,Sem.run,Question.forced,decide_eq_true_eq,hf,if_false,Question.cut];rfl⟩
 obtain⟨j,w1,hj,q7,hrun⟩:=ZL;refine⟨L[j],by simp,w1,q7,?_⟩;have AJ:w1.heap[r]?=some (.mapIter (some bm) since seen c0):=by rcases q7 with rfl|rfl<;>exact hr
 have iY:∀o',(setObj r o').run P w1=.ok () {w1 with heap:=w1.heap.setIfInBounds r o'}:=by intro o';simp[setObj,Sem.run,AJ]
 simp only[hrun,Array.getElem?_map,Array.getElem?_eq_getElem hj,Option.map_some,Sem.run_bind,iY,Result.andThen];rfl
theorem yX{it m since:Nat}{seen:List Nat}{c:Nat}{e:MapEntry}:∀(es:List (AV×AV)) (bs:List Nat) (ms:List MapEntry),ms.map (fun m=>(m.key,m.val))=es.map (fun p=>(real ρ p.1,real ρ p.2))→ms.map (fun m=>m.born)=bs→
  (∀p∈es,p.1.aV D∧p.2.aV D)→e∈ms→tY e.born seen=false→
  ∃k u,(AV.cD [.bool true,k,u],h.set it (.iter m since (seen++[e.born]) c))∈sV h it m since seen c bs es∧real ρ k=e.key∧real ρ u=e.val∧k.aV D∧u.aV D
 |[],bs,ms,hm,hb,hd,he,hn=>by
  have:ms=[]:=by simpa using hm
  subst this;simp at he
 |(k,u)::es,[],ms,hm,hb,hd,he,hn=>by
  have:ms=[]:=by simpa using hb
  subst this;simp at he
 |(k,u)::es,b::bs,[],hm,hb,hd,he,hn=>by simp at he
 |(k,u)::es,b::bs,x::ms,hm,hb,hd,he,hn=>by
  simp only[List.map_cons,List.cons.injEq,Prod.mk.injEq] at hm hb;simp only[sV];rcases List.mem_cons.1 he with rfl|he
  ·rw[←hb.1,hn];simp only[cond_false];exact⟨k,u,List.mem_cons_self,hm.1.1.symm,hm.1.2.symm,(hd _ List.mem_cons_self).1,(hd _ List.mem_cons_self).2⟩
  ·obtain⟨k',u',g1,g2⟩:=yX (it:=it) (m:=m) (since:=since) (c:=c) es bs ms hm.2 hb.2 (fun p hp=>hd p (List.mem_cons_of_mem _ hp)) he hn;refine⟨k',u',?_,g2⟩;cases tY b seen with
   |true=>exact g1
   |false=>exact List.mem_cons_of_mem _ g1
theorem ym{n b:Nat}:∀{l:List Nat},AR n l=true→b∈l→b<n
 |[],_,hb=>by simp at hb
 |c::l,h,hb=>by
  simp only[AR] at h;cases hc:Nat.ble (c+1) n with
  |false=>rw[hc] at h;simp at h
  |true=>
   rw[hc] at h;rcases List.mem_cons.1 hb with rfl|hb
   ·exact Nat.le_of_ble_eq_true hc
   ·exact ym h hb
theorem B5{o:Oper}{rs:List bE}{cs:List (AV×Heap)}(he:bI ρ D n env a)(i:Inv P H0 ρ D h w)(hc:az P o.op=some (.e .next,rs))(hv:rm (rs.map env.ev) h=some cs):
  ∃p∈cs,vv P H0 ρ D h w (execOp a.eval o) p.1 p.2∧p.2.next=h.next:=by
 have key:∃it,o.op=.next it false∧one (.e .next) [it]=some (.e .next,rs):=by
  cases ho:o.op<;>rw[ho] at hc
  case next it s=>
   cases s with
   |true=>simp[az] at hc
   |false=>exact⟨it,rfl,by simpa only[az] using hc⟩
  case makeMap t r=>
   exfalso;cases r with
   |none=>simp only[az] at hc;obtain⟨hq,_⟩:=aT hc;simp at hq
   |some r=>simp[az] at hc
  case unOp u t x=>
   exfalso;cases u<;>simp only[az] at hc<;>first
    |(obtain⟨_,_,h2⟩:=bg hc;simp at h2;done)
    |(simp at hc;done)
  all_goals (exfalso;simp only[az] at hc)
  all_goals repeat' (first
   |(simp only[Option.bind_eq_some_iff] at hc;obtain⟨_,_,hc⟩:=hc)
   |(simp only[Option.map_eq_some_iff] at hc;obtain⟨_,_,hc⟩:=hc;simp at hc;done)
   |(obtain⟨_,_,h2⟩:=bg hc;simp at h2;done)
   |(obtain⟨hq,_⟩:=aT hc;simp at hq;done)
   |(simp at hc;done)
   |(split at hc))
 obtain⟨it,ho,hc⟩:=key;obtain⟨-,hr⟩:=aT hc;obtain⟨r,rfl,h1⟩:=fu hr;have e1:=aD he h1;simp only[List.map_cons,List.map_nil] at hv;have hx:∃it',env.ev r=.ptr it' 0:=by
  cases hx:env.ev r with
  |ptr it' oo=>cases oo with
   |zero=>exact⟨it',rfl⟩
   |succ oo=>rw[hx] at hv;simp[rm] at hv
  |_=>rw[hx] at hv;simp[rm] at hv
 obtain⟨it',hx⟩:=hx;rw[hx] at e1 hv;simp only[AV.aV] at e1;simp only[rm] at hv;split at hv
 ·rename_i m since seen last hg;split at hv
  ·rename_i es bs cl hm;cases hb:(pP seen last bs&&AR since (oQ seen bs)&&!(oQ seen bs).isEmpty) with
   |false=>simp[hb] at hv
   |true=>
    simp only[hb,cond_true,Option.some.injEq] at hv;subst hv;simp only[Bool.and_eq_true,Bool.not_eq_true'] at hb;obtain⟨rO,CA,Ti,sn,hcell,JL⟩:=i.bJ it' _ e1.2 hg;obtain⟨ms,clock,vW,_,tA,vX,Cz,vh⟩:=i.bJ m _ CA hm;have hleft:=yT (sn:=sn) (ms:=ms) JL vh;obtain⟨e,hel,w1,hw1,hrun⟩:=GW (P:=P) w o.type hcell vW (uI JL vh hb.1.1)
     (fun x hx=>ym hb.1.2 (by rw[←hleft];exact List.mem_map_of_mem hx)) (fun h0=>by
      rw[←hleft] at hb;have:(leftOf ms sn).toList=[]:=List.eq_nil_of_length_eq_zero (by simpa using h0);rw[this] at hb;simp at hb)
    have hem:e∈ms.toList∧tY e.born seen=false:=by
     unfold leftOf at hel;rw[Array.toList_filter,List.mem_filter] at hel;refine⟨hel.1,?_⟩;rw[←qY JL];simpa using hel.2
    obtain⟨k,u,g1,g2,g3,g4,g5⟩:=yX (h:=h) (it:=it') (m:=m) (since:=since) (c:=cl) es bs ms.toList tA vh vX hem.1 hem.2;refine⟨_,g1,?_,rfl⟩;have hlt:=(Array.getElem?_eq_some_iff.1 hcell).1;have GD:w1.heap=w.heap:=by rcases hw1 with rfl|rfl<;>rfl
    have U4:w1.tape=w.tape:=by rcases hw1 with rfl|rfl<;>rfl
    have aae:w1.os=w.os:=by rcases hw1 with rfl|rfl<;>rfl
    have aaf:w1.output=w.output:=by rcases hw1 with rfl|rfl<;>rfl
    have hst:=qa (w':={w1 with heap:=w1.heap.setIfInBounds (ρ it').bJ (.mapIter (some (ρ m).bJ) since (sn.push e.born) clock)}) i e1.2 (x:=.iter m since (seen++[e.born]) cl) (by simp[Heap.wr,hg]) rfl
     (by simp[GD]) (fun r hr=>by simp[Array.getElem?_setIfInBounds,Ne.symm hr,GD]) U4 aae aaf ⟨rO,CA,Ti,sn.push e.born,by simp[Array.getElem?_setIfInBounds,GD,hlt,Cz],by simp[JL]⟩
    refine⟨ρ,_,.inl ?_,by rw[show(h.set it' (.iter m since (seen++[e.born]) cl)).next=h.next from rfl,bn];exact hst.1,hst.2,by simp only[AV.aV,bh,and_true,true_and];exact⟨cQ (fun _=>.inl) _ g4,cQ (fun _=>.inl) _ g5⟩⟩;unfold execOp;rw[ho];simp only[e1.1,real,Nat.add_zero,Ti,Sem.run_bind];rw[hrun];simp[Result.andThen,an,real,g2,g3]
  ·simp at hv
 ·simp at hv
theorem IJ{o:Oper}{op:xB}{rs:List bE}{v:AV}(he:bI ρ D n env a)(i:Inv P H0 ρ D h w)(hc:az P o.op=some (.e op,rs))(hv:eI op (rs.map env.ev) h=some (v,h')):
  vv P H0 ρ D h w (execOp a.eval o) v h':=by
 cases ho:o.op<;>rw[ho] at hc
 case store t x y=>
  simp only[az,Option.bind_eq_some_iff] at hc;obtain⟨k,hk,hc⟩:=hc;obtain⟨hq,hr⟩:=aT hc;simp only[fZ.e.injEq] at hq;subst hq;obtain⟨r,q,rfl,h1,h2⟩:=gx hr;have e1:=aD he h1;have e2:=aD he h2;simp only[List.map_cons,List.map_nil] at hv;cases hr':env.ev r with
  |ptr b o'=>
   rw[hr'] at hv e1;simp only[AV.aV] at e1;simp only[eI] at hv;cases hb:Nat.beq (env.ev q).cells.length k with
   |false=>simp[hb] at hv
   |true=>
    simp only[hb,cond_true,Option.map_eq_some_iff,Prod.mk.injEq] at hv;obtain⟨q6,hst,rfl,rfl⟩:=hv;have Pz:=Nat.eq_of_beq_eq_true hb;obtain⟨m0,w',hrun,hinv,mZ⟩:=oI (P:=P) i e1.2 (jo e2.2) hst;refine⟨ρ,w',.inr ⟨?_,rfl⟩,by rw[m0,bn];exact hinv,mZ,by simp[AV.undef,AV.aV,bh]⟩;unfold execOp;rw[ho];simp only[e1.1,e2.1,real,Instr.storeAt,Instr.sureAddr,Sem.run_bind,Sem.run_pure,Result.andThen,storeVar,dU,run_sizeOf hk];rw[if_neg (by simp[aN,Pz])];simp only[hrun,List.toList_toArray]
  |_=>rw[hr'] at hv;simp[eI] at hv
 case mapUpdate t m k x=>
  simp only[az] at hc;split at hc
  ·rename_i kt e hu;split at hc
   ·rename_i kk hk;obtain⟨hq,hr⟩:=aT hc;simp only[fZ.e.injEq] at hq;subst hq;obtain⟨r1,r2,r3,rfl,h1,h2,h3⟩:=pZ hr;have e1:=aD he h1;have e2:=aD he h2;have e3:=aD he h3;simp only[List.map_cons,List.map_nil] at hv;cases hr':env.ev r1 with
    |map b=>
     rw[hr'] at hv e1;simp only[AV.aV] at e1;simp only[eI] at hv;split at hv
     ·rename_i es bs c hg;split at hv
      ·rename_i r hf;simp only[Option.some.injEq,Prod.mk.injEq] at hv;obtain⟨rfl,rfl⟩:=hv;obtain⟨w',hrun,hinv,mZ⟩:=EV i hu hk e1.2 e2.2 e3.2 hg hf;refine⟨ρ,w',.inr ⟨?_,rfl⟩,by rw[show(h.set b (.map (putKey (env.ev r2) (env.ev r3) es) (oM r bs c) (vH r c))).next=h.next from rfl,bn];exact hinv,mZ,by simp[AV.undef,AV.aV,bh]⟩;unfold execOp;rw[ho];simp only[e1.1,e2.1,e3.1,real,Sem.run_bind,hrun,Result.andThen,Sem.run_pure]
      ·simp at hv
     ·simp at hv
    |_=>rw[hr'] at hv;simp[eI] at hv
   ·exfalso;obtain⟨hq,_⟩:=aT hc;simp at hq
   ·exfalso;obtain⟨hq,_⟩:=aT hc;simp at hq
   ·simp at hc
  ·simp at hc
 case insert t m k x=>
  simp only[az] at hc;split at hc
  ·rename_i kt e hu;split at hc
   ·rename_i kk hk;obtain⟨hq,hr⟩:=aT hc;simp only[fZ.e.injEq] at hq;subst hq;obtain⟨r1,r2,r3,rfl,h1,h2,h3⟩:=pZ hr;have e1:=aD he h1;have e2:=aD he h2;have e3:=aD he h3;simp only[List.map_cons,List.map_nil] at hv;cases hr':env.ev r1 with
    |map b=>
     rw[hr'] at hv e1;simp only[AV.aV] at e1;simp only[eI] at hv;split at hv
     ·rename_i es bs c hg;split at hv
      ·rename_i r hf;simp only[Option.some.injEq,Prod.mk.injEq] at hv;obtain⟨rfl,rfl⟩:=hv;obtain⟨w',hrun,hinv,mZ⟩:=EV i hu hk e1.2 e2.2 e3.2 hg hf;refine⟨ρ,w',.inr ⟨?_,rfl⟩,by rw[show(h.set b (.map (putKey (env.ev r2) (env.ev r3) es) (oM r bs c) (vH r c))).next=h.next from rfl,bn];exact hinv,mZ,by simp[AV.undef,AV.aV,bh]⟩;unfold execOp;rw[ho];simp only[e1.1,e2.1,e3.1,real,Sem.run_bind,hrun,Result.andThen,Sem.run_pure]
      ·simp at hv
     ·simp at hv
    |_=>rw[hr'] at hv;simp[eI] at hv
   ·exfalso;obtain⟨hq,_⟩:=aT hc;simp at hq
   ·exfalso;obtain⟨hq,_⟩:=aT hc;simp at hq
   ·simp at hc
  ·simp at hc
 case call c=>
  simp only[az] at hc;split at hc
  ·simp only[Option.map_eq_some_iff] at hc;obtain⟨_,_,hc⟩:=hc;simp at hc
  ·simp only[Option.map_eq_some_iff] at hc;obtain⟨_,_,hc⟩:=hc;simp at hc
  ·rename_i b hcb;split at hc
   ·exfalso;repeat' (first
     |(obtain⟨_,_,h2⟩:=bg hc;simp at h2;done)
     |(simp at hc;done)
     |(split at hc))
   ·exfalso;obtain⟨_,_,h2⟩:=bg hc;simp at h2
   ·exfalso;obtain⟨_,_,h2⟩:=bg hc;simp at h2
   ·rename_i s x t u ts hargs eU;split at hc
    ·rename_i e d hu hd;split at hc
     ·simp at hc
     ·rename_i hsrc;split at hc
      ·rename_i size bytes z hsz hb hz;split at hc
       ·simp at hc
       ·rename_i hzl;exact AY he i ho hcb hargs eU hu hd (by simpa using hsrc) hsz hb hz (by simpa using hzl) hc hv
      ·simp at hc
    ·simp at hc
   ·rename_i s x t ts hargs eU;split at hc
    ·rename_i e hu;simp only[Option.bind_eq_some_iff] at hc;obtain⟨size,hsz,hc⟩:=hc;exact Gd he i ho hcb hargs eU hu hsz hc hv
    ·simp at hc
   ·rename_i x t hargs eU;split at hc
    ·rename_i e hu;simp only[Option.bind_eq_some_iff] at hc;obtain⟨z,hz,hc⟩:=hc;obtain⟨hq,hr⟩:=aT hc;simp only[fZ.e.injEq] at hq;subst hq;obtain⟨r,rfl,h1⟩:=fu hr;have e1:=aD he h1;have xS:=cS (P:=P) (w:=w) hz ρ D;simp only[List.map_cons,List.map_nil] at hv;rw[iw o c .clear ho hcb,eB hargs (ys:=[real ρ (env.ev r)]) (by simp[e1.1])];have yK:∀(l:Array Bool) (xs:List Value),builtin .clear c.argTypes o.type l xs.toArray=(do pure (.value (←Builtin.clear_ c.argTypes o.type xs.toArray))):=fun _ _=>rfl;rw[yK,nI eU];cases hr':env.ev r with
     |aH=>
      rw[hr'] at hv;simp only[eI,Option.some.injEq,Prod.mk.injEq] at hv;obtain⟨rfl,rfl⟩:=hv;refine⟨ρ,w,.inl ?_,by rw[bn];exact i,Ext.refl _ _ _ _,by simp[AV.undef,AV.aV,bh]⟩;simp[Builtin.clear_,run_underlying hu,real,Result.andThen,AV.undef,an]
     |sl b o' len cap op=>
      rw[hr'] at hv e1;simp only[AV.aV] at e1;simp only[eI,Option.map_eq_some_iff,Prod.mk.injEq] at hv;obtain⟨h2,hst,rfl,rfl⟩:=hv;obtain⟨m0,w',hrun,hinv,mZ⟩:=Gb (P:=P) i e1.2 (jo xS.2) hst;refine⟨ρ,w',.inl ?_,by rw[m0,bn];exact hinv,mZ,by simp[AV.undef,AV.aV,bh]⟩;have hz2:(Builtin.zeroCells (real ρ z).cells len).toList=an ρ (dH z.cells len):=by
       rw[Builtin.zeroCells,dU,qh ρ z.cells len _ (by simp[aN])]
      cases len with
      |zero=>
       have hw:w'=w:=by
        simp[dH,an,storeCells] at hrun;exact hrun.symm
       subst hw;simp[Builtin.clear_,run_underlying hu,real,Result.andThen,AV.undef,an]
      |succ len=>
       simp only[Builtin.clear_,real,List.getElem?_toArray,List.getElem?_cons_zero,Sem.run_bind,run_underlying hu,Result.andThen,xS.1,hz2,hrun,Sem.run_pure,AV.undef,an]
     |_=>rw[hr'] at hv;simp[eI] at hv
    ·exfalso;obtain⟨hq,_⟩:=aT hc;simp at hq
    ·simp at hc
   ·rename_i m k t ts hargs eU;split at hc
    ·rename_i kt e hu;split at hc
     ·rename_i kk hk;obtain⟨hq,hr⟩:=aT hc;simp only[fZ.e.injEq] at hq;subst hq;obtain⟨r1,r2,rfl,h1,h2⟩:=gx hr;have e1:=aD he h1;have e2:=aD he h2;simp only[List.map_cons,List.map_nil] at hv;rw[iw o c .delete ho hcb,eB hargs (ys:=[real ρ (env.ev r1),real ρ (env.ev r2)]) (by simp[e1.1,e2.1])];have yK:∀(l:Array Bool) (xs:List Value),builtin .delete c.argTypes o.type l xs.toArray=(do pure (.value (←Builtin.delete_ c.argTypes o.type xs.toArray))):=fun _ _=>rfl;rw[yK,nI eU];cases hr':env.ev r1 with
      |map b=>
       rw[hr'] at hv e1;simp only[AV.aV] at e1;simp only[eI] at hv;split at hv
       ·rename_i es bs cl hg;split at hv
        ·rename_i q hf;simp only[Option.some.injEq,Prod.mk.injEq] at hv;obtain⟨rfl,rfl⟩:=hv;obtain⟨w',hrun,hinv,mZ⟩:=Kk (ty:=o.type) (ts:=ts) i hu hk e1.2 hg hf;refine⟨ρ,w',.inl ?_,by rw[show(h.set b (.map (delKey (env.ev r2) es) (mL (env.ev r2) es bs) cl)).next=h.next from rfl,bn];exact hinv,mZ,by simp[AV.aV,bh]⟩;simp only[real,Sem.run_bind];rw[hrun];simp[Result.andThen,an]
        ·simp at hv
       ·simp at hv
      |_=>rw[hr'] at hv;simp[eI] at hv
     ·simp at hc
    ·simp at hc
   ·simp at hc
 case range t x=>
  simp only[az] at hc;split at hc
  ·rename_i kt e hu;obtain⟨hq,hr⟩:=aT hc;simp only[fZ.e.injEq] at hq;subst hq;obtain⟨r,rfl,h1⟩:=fu hr;have e1:=aD he h1;simp only[List.map_cons,List.map_nil] at hv;cases hr':env.ev r with
   |map b=>
    rw[hr'] at hv e1;simp only[AV.aV] at e1;simp only[eI] at hv;split at hv
    ·rename_i es bs cl hg;simp only[Option.some.injEq,Prod.mk.injEq] at hv;obtain⟨rfl,rfl⟩:=hv;obtain⟨ms,clock,hcell,rO,tA,vX,Cz,vh⟩:=i.bJ b _ e1.2 hg;have hlt:=i.lt b e1.2;have hst:=p9 (w':=w.alloc (.mapIter (some (ρ b).bJ) clock #[] clock)) i (.iter b cl [] cl) 0 (.mapIter (some (ρ b).bJ) clock #[] clock) rfl rfl rfl rfl
      ⟨i.low,.inl e1.2,rfl,#[],by rw[j9 _ _ (by omega),←Cz];exact jW _ _,rfl⟩
     refine⟨_,_,.inl ?_,hst.1,hst.2,by simp[AV.aV,grow]⟩;unfold execOp;rw[ho];simp only[e1.1,real,Instr.range,Sem.run_bind,run_underlying hu,Result.andThen,getObj,Sem.run,hcell,newObj,bM];rfl
    ·simp at hv
   |_=>rw[hr'] at hv;simp[eI] at hv
  ·simp at hc
 case next it s=>
  cases s with
  |true=>simp[az] at hc
  |false=>
   simp only[az] at hc;obtain⟨hq,hr⟩:=aT hc;simp only[fZ.e.injEq] at hq;subst hq;obtain⟨r,rfl,h1⟩:=fu hr;have e1:=aD he h1;simp only[List.map_cons,List.map_nil] at hv;have hx:∃it',env.ev r=.ptr it' 0:=by
    cases hx:env.ev r with
    |ptr it' oo=>cases oo with
     |zero=>exact⟨it',rfl⟩
     |succ oo=>rw[hx] at hv;simp[eI] at hv
    |_=>rw[hx] at hv;simp[eI] at hv
   obtain⟨it',hx⟩:=hx;rw[hx] at e1 hv;simp only[AV.aV] at e1;simp only[eI] at hv;split at hv
   ·rename_i m since seen last hg;split at hv
    ·rename_i es bs cl hm;cases hb:(pP seen last bs&&(oQ seen bs).isEmpty) with
     |false=>simp[hb] at hv
     |true=>
      simp only[hb,cond_true,Option.some.injEq,Prod.mk.injEq] at hv;obtain⟨rfl,rfl⟩:=hv;simp only[Bool.and_eq_true] at hb;obtain⟨_,CA,Ti,sn,hcell,JL⟩:=i.bJ it' _ e1.2 hg;obtain⟨ms,clock,vW,_,tA,vX,Cz,vh⟩:=i.bJ m _ CA hm;have hst:=K3 i e1.2;refine⟨ρ,w,.inl ?_,by rw[show(h.del it').next=h.next from rfl,bn];exact hst.1,hst.2,by simp[AV.aV,bh]⟩;unfold execOp;rw[ho];have hl:leftOf ms sn=#[]:=by
       have:=yT (sn:=sn) JL vh;rw[List.isEmpty_iff.1 hb.2] at this;exact Array.eq_empty_of_size_eq_zero (by simpa using congrArg List.length this)
      have:=GV (P:=P) w o.type hcell vW (uI JL vh hb.1) hl;simp only[e1.1,real,Nat.add_zero,Ti,Sem.run_bind];rw[this];simp[Result.andThen,an,real]
    ·simp at hv
   ·simp at hv
 case unOp u t x=>
  exfalso;cases u<;>simp only[az] at hc<;>first
   |(obtain⟨_,_,h2⟩:=bg hc;simp at h2;done)
   |(simp at hc;done)
 case makeMap t r=>
  exfalso;cases r with
  |none=>simp only[az] at hc;obtain⟨hq,_⟩:=aT hc;simp at hq
  |some r=>simp[az] at hc
 all_goals (exfalso;simp only[az] at hc)
 all_goals repeat' (first
  |(simp only[Option.bind_eq_some_iff] at hc;obtain⟨_,_,hc⟩:=hc)
  |(simp only[Option.map_eq_some_iff] at hc;obtain⟨_,_,hc⟩:=hc;simp at hc;done)
  |(obtain⟨_,_,h2⟩:=bg hc;simp at h2;done)
  |(simp at hc;done)
  |(split at hc))
theorem IK{o:Oper}{op:xB}{rs:List bE}{v:AV}(he:bI ρ D n env a)(i:Inv P H0 ρ D h w)(hc:az P o.op=some (.e op,rs))(hv:eK op (rs.map env.ev) h=some (v,h')):
  vv P H0 ρ D h w (execOp a.eval o) v h':=by
 cases op with
 |append size bytes=>
  cases ho:o.op
  case call c=>
   rw[ho] at hc;simp only[az] at hc;split at hc
   ·simp only[Option.map_eq_some_iff] at hc;obtain⟨_,_,hc⟩:=hc;simp at hc
   ·simp only[Option.map_eq_some_iff] at hc;obtain⟨_,_,hc⟩:=hc;simp at hc
   ·rename_i b hcb;split at hc
    ·exfalso;repeat' (first
      |(obtain⟨_,_,h2⟩:=bg hc;simp at h2;done)
      |(simp at hc;done)
      |(split at hc))
    ·exfalso;obtain⟨_,_,h2⟩:=bg hc;simp at h2
    ·exfalso;obtain⟨_,_,h2⟩:=bg hc;simp at h2
    ·rename_i s x t u ts hargs eU;split at hc
     ·rename_i e d hu hd;split at hc
      ·simp at hc
      ·rename_i hsrc;split at hc
       ·rename_i size' bytes' z hsz hb hz;split at hc
        ·simp at hc
        ·rename_i hzl;obtain⟨hq,hr⟩:=aT hc;simp only[fZ.e.injEq,xB.append.injEq] at hq;obtain⟨rfl,rfl⟩:=hq;exact zw he i ho hcb hargs eU hu hd (by simpa using hsrc) hsz hb hz (by simpa using hzl) hr hv
       ·simp at hc
     ·simp at hc
    ·exfalso;repeat' (first
      |(simp only[Option.bind_eq_some_iff] at hc;obtain⟨_,_,hc⟩:=hc)
      |(obtain⟨hq,_⟩:=aT hc;simp at hq;done)
      |(simp at hc;done)
      |(split at hc))
    ·exfalso;repeat' (first
      |(simp only[Option.bind_eq_some_iff] at hc;obtain⟨_,_,hc⟩:=hc)
      |(obtain⟨hq,_⟩:=aT hc;simp at hq;done)
      |(simp at hc;done)
      |(split at hc))
    ·exfalso;repeat' (first
      |(simp only[Option.bind_eq_some_iff] at hc;obtain⟨_,_,hc⟩:=hc)
      |(obtain⟨hq,_⟩:=aT hc;simp at hq;done)
      |(simp at hc;done)
      |(split at hc))
    ·simp at hc
  case unOp u t x=>
   exfalso;rw[ho] at hc;cases u<;>simp only[az] at hc<;>first
    |(obtain⟨_,_,h2⟩:=bg hc;simp at h2;done)
    |(simp at hc;done)
  case next it s=>
   exfalso;rw[ho] at hc;cases s with
   |true=>simp[az] at hc
   |false=>simp only[az] at hc;obtain⟨hq,_⟩:=aT hc;simp at hq
  case makeMap t r=>
   exfalso;rw[ho] at hc;cases r with
   |none=>simp only[az] at hc;obtain⟨hq,_⟩:=aT hc;simp at hq
   |some r=>simp[az] at hc
  all_goals (exfalso;rw[ho] at hc;simp only[az] at hc)
  all_goals repeat' (first
   |(simp only[Option.bind_eq_some_iff] at hc;obtain⟨_,_,hc⟩:=hc)
   |(simp only[Option.map_eq_some_iff] at hc;obtain⟨_,_,hc⟩:=hc;simp at hc;done)
   |(obtain⟨_,_,h2⟩:=bg hc;simp at h2;done)
   |(obtain⟨hq,_⟩:=aT hc;simp at hq;done)
   |(simp at hc;done)
   |(split at hc))
 |_=>simp[eK] at hv
end
end Ads
end Go.Proofs.YtnlcabhfkpafmaaGreat
