/-
  Operations that make memory, read it, write it.
  Operations that read memory or write it.
  Operations that write memory: store, append, copy.
  Operations that write memory, together.
-/
import Derived.Laws.BytesString
import Derived.Test.YtecdcefacdodgaaAdsPureX
set_option linter.unusedSimpArgs false
set_option linter.unusedVariables false
namespace Go.Proofs.Ytecdcefacdodgaa
namespace Ads
section
variable {P:Program} {H0:Nat} {ρ:cn} {D:Dom} {h:Heap} {w:World} {n:Nat} {env:Env} {a:Act}
theorem aN{q op:fh}{xs:List Operand}{rs:List bA}(h:one q xs=some (op,rs)):q=op∧bT xs=some rs:=by
 obtain⟨rs',h1,h2⟩:=aU h;simp only[Prod.mk.injEq] at h2;exact⟨h2.1.symm,by rw[h2.2];exact h1⟩
theorem E0{k:Nat}(h:k≤9223372036854775807):IntKind.i64.wrap (k:Int)=k:=IntWalk.i64_in _ (by omega)
theorem eo(z:List AV):∀k,(bR z k).length=k*z.length
 |0=>by simp[bR]
 |k+1=>by simp[bR,eo z k,Nat.succ_mul];omega
theorem lZ(z:List AV):∀(k i:Nat),i<k*z.length→(bR z k)[i]?=z[i%z.length]?
 |0,i,h=>by simp at h
 |k+1,i,h=>by
  simp only[bR];by_cases hi:i<z.length
  ·rw[List.getElem?_append_left hi,Nat.mod_eq_of_lt hi]
  ·rw[List.getElem?_append_right (by omega),lZ z k _ (by rw[Nat.succ_mul] at h;omega)]
   congr 1
   rw[Nat.mod_eq_sub_mod (by omega:i≥z.length)]
theorem pO(ρ:cn)(z:List AV)(k m:Nat)(hm:m=k*z.length):(Array.range m).map (fun i=>(aa ρ z).toArray[i%(aa ρ z).toArray.size]!)=(aa ρ (bR z k)).toArray:=by
 subst hm;apply Array.ext_getElem?;intro i;rw[Array.getElem?_map,show(aa ρ (bR z k)).toArray[i]?=(aa ρ (bR z k))[i]? from List.getElem?_toArray,dM];by_cases hi:i<k*z.length
 ·have hz:0<z.length:=by
   rcases Nat.eq_zero_or_pos z.length with e|e
   ·rw[e] at hi;simp at hi
   ·exact e
  have hlt:i%z.length<z.length:=Nat.mod_lt _ hz;rw[lZ z k i hi];have hr:(Array.range (k*z.length))[i]?=some i:=by simp[hi]
  rw[hr];simp only[Option.map_some,List.size_toArray,aK];rw[List.getElem?_eq_getElem hlt];simp only[Option.map_some,Option.some.injEq];have h2:(aa ρ z)[i%z.length]?=some (real ρ z[i%z.length]):=by rw[dM,List.getElem?_eq_getElem hlt];rfl
  rw[List.getElem!_toArray,List.getElem!_eq_getElem?_getD,h2];rfl
 ·rw[List.getElem?_eq_none (by rw[eo];omega)];have hr:(Array.range (k*z.length))[i]?=none:=by simp;omega
  rw[hr];rfl
theorem jr(w:World)(o:Obj):(w.alloc o).heap[w.heap.size]?=some o:=by
 show(w.heap.push o)[w.heap.size]?=some o;simp
theorem Ly{ρ':cn}{D':Dom}{cs:List AV}(hd:aW D' cs)(t:TypeId)(oQ:H0≤w.heap.size):
  dU P H0 ρ' D' ⟨w.heap.size,0,0⟩ (.cells cs true 0) (w.alloc (.cells (aa ρ' cs).toArray t)):=by
 refine⟨(aa ρ' cs).toArray,t,(0,0),jr _ _,?_,fun _=>⟨oQ,by simp[aK],fun i h1 h2=>by simp at h2⟩⟩;intro i v hv;refine⟨?_,(aL D' cs).1 hd v (List.mem_of_getElem? hv)⟩;simp[dM,hv]
def Made(P:Program)(H0:Nat)(ρ:cn)(D:Dom)(w:World)(s:Sem Next)(x:ck)(f:Nat→AV):Prop:=
 ∃obj:Obj,(∀(b:Nat) (ρ':cn),ρ' b=⟨w.heap.size,0,0⟩→s.run P w=.ok (.value (real ρ' (f b))) (w.alloc obj))∧
  (∀(ρ':cn) (D':Dom),(∀b,D b→D' b)→(∀b,D b→ρ' b=ρ b)→H0≤w.heap.size→dU P H0 ρ' D' ⟨w.heap.size,0,0⟩ x (w.alloc obj))∧
  (∀(b:Nat) (D':Dom),D' b→(f b).aP D')
theorem so{s:Sem Next}{cs:List AV}{f:Nat→AV}(t:TypeId)(hd:aW D cs)
  (hs:∀(b:Nat) (ρ':cn),ρ' b=⟨w.heap.size,0,0⟩→s.run P w=.ok (.value (real ρ' (f b))) (w.alloc (.cells (aa ρ cs).toArray t)))
  (hf:∀(b:Nat) (D':Dom),D' b→(f b).aP D'):Made P H0 ρ D w s (.cells cs true 0) f:=by
 refine⟨_,hs,?_,hf⟩;intro ρ' D' h1 h2 hl;rw[←dZ h2 cs hd];exact Ly (jq h1 cs hd) t hl
theorem gy(t:TypeId)(c:Array Value):(newRow t c).run P w=.ok ⟨w.heap.size,0,none⟩ (w.alloc (.cells c t)):=by
 simp[newRow,Result.andThen]
theorem AH{o:Oper}{op:Qb}{rs:List bA}{x:ck}{f:Nat→AV}(he:bz ρ D n env a)(hc:an P o.op=some (.a op,rs))(hv:aI op (rs.map env.ev)=some (x,f)):
  Made P H0 ρ D w (execOp a.eval o) x f:=by
 cases ho:o.op<;>rw[ho] at hc
 case alloc t=>
  simp only[an,Option.bind_eq_some_iff] at hc;obtain⟨z,hz,hc⟩:=hc;obtain⟨hq,hr⟩:=aN hc;simp only[fh.a.injEq] at hq;subst hq;simp[bT] at hr;subst hr;simp only[List.map_nil,aI,Option.some.injEq,Prod.mk.injEq] at hv;obtain⟨rfl,rfl⟩:=hv;have xP:=cF (P:=P) (w:=w) hz ρ D;refine so t (iA xP.2) ?_ (fun b D' hb=>by simpa[AV.aP] using hb);intro b ρ' hb;unfold execOp;rw[ho];simp only[Instr.alloc,newVar,Sem.run_bind,xP.1,Result.andThen,gy,Sem.run_pure,real,hb,dr]
 case box t y=>
  simp only[an] at hc;obtain⟨hq,hr⟩:=aN hc;simp only[fh.a.injEq] at hq;subst hq;obtain⟨r,rfl,h1⟩:=eE hr;have e1:=aD he h1;simp only[List.map_cons,List.map_nil,aI,Option.some.injEq,Prod.mk.injEq] at hv;obtain⟨rfl,rfl⟩:=hv;refine so t (iA e1.2) ?_ (fun b D' hb=>by simpa[AV.aP] using hb);intro b ρ' hb;unfold execOp;rw[ho];simp only[Instr.box,newVar,Sem.run_bind,Result.andThen,gy,Sem.run_pure,real,hb,e1.1,dr]
 case buildSlice t len ps=>
  simp only[an] at hc;split at hc
  ·rename_i e hu;split at hc
   ·rename_i k z hk hz;split at hc
    ·simp at hc
    ·rename_i ko;simp only[Option.map_eq_some_iff] at hc;obtain⟨⟨PO,as⟩,hps,hq⟩:=hc;simp only[Prod.mk.injEq,fh.a.injEq] at hq;obtain⟨rfl,rfl⟩:=hq;simp only[Bool.or_eq_true,decide_eq_true_eq,bne_iff_ne,ne_eq,not_or,Decidable.not_not] at ko;obtain⟨hc1,GV⟩:=ko;have hp:=tQ he hps;simp only[aI] at hv;split at hv
     ·rename_i cs hf;simp only[Option.some.injEq,Prod.mk.injEq] at hv;obtain⟨rfl,rfl⟩:=hv;have xP:=cF (P:=P) (w:=w) hz ρ D;have hzd:aW D (bR z.cells len):=by
       rw[aL];intro v BM;obtain⟨j,hj⟩:=List.mem_iff_getElem?.1 BM;have hjl:j<len*z.cells.length:=by
        have:=(List.getElem?_eq_some_iff.1 hj).1;rw[eo] at this;exact this
       rw[lZ _ _ _ hjl] at hj;exact(aL D _).1 (iA xP.2) v (List.mem_of_getElem? hj)
      have mI:(ps.toList.map (·.1))=PO.map (·.1):=by
       have:=hp.1;have h2:(ps.toList.map (·.1)).map (fun i=>(some (i,0):Option (Nat×Nat)))=PO.map some:=this;have h3:=congrArg (List.map (fun o:Option (Nat×Nat)=>(o.getD (0,0)).1)) h2;simpa[Function.comp_def] using h3
      have Iu:=th (ρ:=ρ) (D:=D) (pl:=fun i=>some (i*k,k)) (idx:=ps.toList.map (·.1)) (by
       rw[mI];simp[Function.comp_def]) hf hp.2.2 hzd
      refine so e Iu.2.1 ?_ (fun b D' hb=>by simpa[AV.aP] using hb);intro b ρ' hb;unfold execOp;rw[ho];have IK:(ps.map fun(i,x)=>(i,a.eval x)).toList=(ps.toList.map (·.1)).zip (aa ρ (as.map env.ev)):=by
       rw[←hp.2.1,←n8];simp
      simp only[Instr.buildSlice,Sem.run_bind,run_underlying hu,Result.andThen,run_sizeOf hk];rw[if_neg (by omega)];by_cases h0:len*k=0
      ·have yL:bR z.cells len=[]:=List.length_eq_zero_iff.1 (by rw[eo,GV];exact h0);have RJ:=Iu.1;rw[yL,←IK] at RJ;rw[if_pos h0];have Dw:∀g:Nat→Value,(Array.range (len*k)).map g=(aa ρ []).toArray:=by intro g;simp[h0,aa]
       simp only[Sem.run_bind,Result.andThen,Sem.run_pure,Dw];rw[RJ];simp[gy,real,hb,Result.andThen]
      ·have RJ:=Iu.1;rw[←IK,←pO ρ z.cells len (len*k) (by rw[GV])] at RJ;rw[if_neg h0];simp only[Sem.run_bind,xP.1,Result.andThen,Sem.run_pure,dr];rw[RJ];simp[gy,real,hb,Result.andThen]
     ·simp at hv
   ·simp at hc
  ·simp at hc
 case makeSlice t l c=>
  simp only[an] at hc;split at hc
  ·rename_i e hu;split at hc
   ·rename_i k QV z hk Xc hz;split at hc
    ·simp at hc
    ·rename_i ko;simp only[bne_iff_ne,ne_eq,Decidable.not_not] at ko;obtain⟨hq,hr⟩:=aN hc;simp only[fh.a.injEq] at hq;subst hq;obtain⟨r,s,rfl,h1,h2⟩:=fA hr;have e1:=aD he h1;have e2:=aD he h2;simp only[List.map_cons,List.map_nil,aI] at hv;split at hv
     ·rename_i lv cv hl Ry;cases hg:(Nat.ble lv cv&&Nat.ble (QV*cv) 140737488355328&&Nat.ble cv 9223372036854775807) with
      |false=>simp[hg] at hv
      |true=>
       simp only[hg,cond_true,Option.some.injEq,Prod.mk.injEq] at hv;obtain⟨rfl,rfl⟩:=hv;simp only[Bool.and_eq_true] at hg;have g1:=Nat.le_of_ble_eq_true hg.1.1;have g2:=Nat.le_of_ble_eq_true hg.1.2;have g3:=Nat.le_of_ble_eq_true hg.2;obtain⟨k1,hl'⟩:=js hl;obtain⟨k2,ju⟩:=js Ry;have xP:=cF (P:=P) (w:=w) hz ρ D;have hzd:aW D (bR z.cells cv):=by
        rw[aL];intro v BM;obtain⟨j,hj⟩:=List.mem_iff_getElem?.1 BM;have hjl:j<cv*z.cells.length:=by
         have:=(List.getElem?_eq_some_iff.1 hj).1;rw[eo] at this;exact this
        rw[lZ _ _ _ hjl] at hj;exact(aL D _).1 (iA xP.2) v (List.mem_of_getElem? hj)
       refine so e hzd ?_ (fun b D' hb=>by simpa[AV.aP] using hb);intro b ρ' hb;unfold execOp;rw[ho];have RR:∃i,P.info? e=some i∧i.bytes=QV:=by
        simp only[qU,Option.map_eq_some_iff] at Xc;obtain⟨i,hi,hb⟩:=Xc;exact⟨i,hi,hb⟩
       obtain⟨i,hi,Ma⟩:=RR;simp only[e1.1,e2.1,hl',ju,real];simp only[Instr.makeSlice,Sem.run_bind,run_underlying hu,Result.andThen,asInt,asIntOf,Sem.run_pure,run_typeInfo hi,Ma,E0 g3,E0 (Nat.le_trans g1 g3)];have hno:((decide ((cv:Int)<0)||decide ((QV:Int)*(cv:Int)>2^48))||decide ((lv:Int)<0)||decide ((lv:Int)>(cv:Int)))=false:=by
        have jf:(QV:Int)*(cv:Int)=((QV*cv:Nat):Int):=by simp
        rw[jf];simp only[Bool.or_eq_false_iff,decide_eq_false_iff_not];refine⟨⟨⟨by omega,?_⟩,by omega⟩,by omega⟩;have:((2:Int)^48)=281474976710656:=by decide
        rw[this];omega
       rw[if_neg (by rw[hno];simp)];simp only[Sem.run_bind,run_askRoom,Result.andThen,Int.toNat_natCast,run_sizeOf hk];by_cases h0:cv*k=0
       ·have yL:bR z.cells cv=[]:=List.length_eq_zero_iff.1 (by rw[eo,ko];exact h0);have Dw:∀g:Nat→Value,(Array.range (cv*k)).map g=(aa ρ []).toArray:=by intro g;simp[h0,aa]
        rw[if_pos h0,yL];simp only[Sem.run_bind,Result.andThen,Sem.run_pure,Dw,gy];simp[hb]
       ·rw[if_neg h0,←pO ρ z.cells cv (cv*k) (by rw[ko])];simp only[Sem.run_bind,xP.1,Result.andThen,Sem.run_pure,dr,gy];simp[hb]
     ·simp at hv
   ·simp at hc
  ·simp at hc
 case next it s=>
  exfalso;cases s with
  |true=>simp[an] at hc
  |false=>simp only[an] at hc;obtain⟨hq,_⟩:=aN hc;simp at hq
 case makeMap t r=>
  cases r with
  |some r=>simp[an] at hc
  |none=>
   simp only[an] at hc;obtain⟨hq,hr⟩:=aN hc;simp only[fh.a.injEq] at hq;subst hq;simp[bT] at hr;subst hr;simp only[List.map_nil,aI,Option.some.injEq,Prod.mk.injEq] at hv;obtain⟨rfl,rfl⟩:=hv;refine⟨.map #[] 0,?_,?_,fun b D' hb=>by simpa[AV.aP] using hb⟩
   ·intro b ρ' hb;unfold execOp;rw[ho];simp[Instr.makeMap,real,hb,Result.andThen]
   ·intro ρ' D' _ _ hl;exact⟨#[],0,jr _ _,hl,rfl,fun p hp=>by simp at hp,rfl,rfl⟩
 case unOp u t x=>
  exfalso;cases u<;>simp only[an] at hc<;>first
   |(obtain⟨_,_,h2⟩:=aU hc;simp at h2;done)
   |(simp at hc;done)
 all_goals (exfalso;simp only[an] at hc)
 all_goals repeat' (first
  |(simp only[Option.bind_eq_some_iff] at hc;obtain⟨_,_,hc⟩:=hc)
  |(simp only[Option.map_eq_some_iff] at hc;obtain⟨_,_,hc⟩:=hc;simp at hc;done)
  |(obtain⟨_,_,h2⟩:=aU hc;simp at h2;done)
  |(simp at hc;done)
  |(split at hc))
end
end Ads
end Go.Proofs.Ytecdcefacdodgaa
set_option linter.unusedSimpArgs false
set_option linter.unusedVariables false
namespace Go.Proofs.Ytecdcefacdodgaa
namespace Ads
section
variable {P:Program} {H0:Nat} {ρ:cn} {D:Dom} {h h':Heap} {w:World} {n:Nat} {env:Env} {a:Act}
theorem rD{t:TypeId}{kk:IntKind}(hu:P.underlying t=some (.int kk))(e:Bool)(n:Nat)(v:Value):(Instr.checkKey e (n+1) t v).run P w=.ok () w:=by
 unfold Instr.checkKey;rw[Sem.run_bind,run_underlying hu];simp only[Result.andThen];cases v<;>simp
theorem Py{k x:AV}(he:fj k x=some true):k=x:=by
 unfold fj at he;split at he
 ·rename_i k1 a k2 b;cases hk:decide (k1=k2) with
  |false=>simp[hk] at he
  |true=>
   simp only[hk,cond_true,Option.some.injEq,beq_iff_eq] at he;rw[of_decide_eq_true hk,he]
 ·simp at he
theorem sH{k x:AV}{c:Bool}{kk:IntKind}(he:fj k x=some c):Instr.sameNow (.int kk) (real ρ k) (real ρ x)=some c:=by
 unfold fj at he;split at he
 ·rename_i k1 a k2 b;cases hk:decide (k1=k2) with
  |false=>simp[hk] at he
  |true=>
   simp only[hk,cond_true,Option.some.injEq] at he;simp only[real,Instr.sameNow];rw[if_pos (of_decide_eq_true hk),he]
 ·simp at he
theorem Mn{k x:AV}{c:Bool}(he:fj k x=some c):∃kd n,k=.int kd n:=by
 unfold fj at he;split at he
 ·exact⟨_,_,rfl⟩
 ·simp at he
theorem kE{kk:IntKind}{k v:AV}:∀(es:List (AV×AV)) (ms:List MapEntry) (i:Nat) {r:Option AV},ms.map (fun m=>(m.key,m.val))=es.map (fun p=>(real ρ p.1,real ρ p.2))→findKey k es=some r→
  match r with
  |none=>Instr.findNow (.int kk) (real ρ k) ms i=some none∧putKey k v es=es++[(k,v)]
  |some u=>∃j,Instr.findNow (.int kk) (real ρ k) ms i=some (some (i+j,real ρ u))∧(ms[j]?).map (·.key)=some (real ρ k)∧(∃p,p∈es∧p.2=u)∧(∃kd n,k=.int kd n)∧
    (ms.modify j fun e=>{e with key:=real ρ k,val:=real ρ v}).map (fun m=>(m.key,m.val))=(putKey k v es).map fun p=>(real ρ p.1,real ρ p.2)
 |[],ms,i,r,hm,hf=>by
  simp only[findKey,Option.some.injEq] at hf;subst hf;have:ms=[]:=by simpa using hm
  subst this;exact⟨rfl,rfl⟩
 |(x,u)::es,ms,i,r,hm,hf=>by
  cases ms with
  |nil=>simp at hm
  |cons m ms=>
   simp only[List.map_cons,List.cons.injEq,Prod.mk.injEq] at hm;obtain⟨⟨h1,h2⟩,h3⟩:=hm;simp only[findKey] at hf;split at hf
   ·rename_i he;simp only[Option.some.injEq] at hf;subst hf;have TF:=Py he;have hs:=sH (ρ:=ρ) (kk:=kk) he;refine⟨0,?_,?_,⟨_,List.mem_cons_self,rfl⟩,Mn he,?_⟩
    ·simp only[Instr.findNow,h1,hs,h2,Nat.add_zero]
    ·simp[h1,TF]
    ·simp only[putKey,he,List.map_cons,h3.symm,List.modify_zero_cons]
   ·rename_i he;have hs:=sH (ρ:=ρ) (kk:=kk) he;have ih:=kE (kk:=kk) (v:=v) es ms (i+1) h3 hf;cases r with
    |none=>
     simp only at ih⊢;refine⟨by simp only[Instr.findNow,h1,hs];exact ih.1,?_⟩;simp only[putKey,he,ih.2,List.cons_append]
    |some u'=>
     simp only at ih⊢;obtain⟨j,i1,i2,⟨p,hp,Qw⟩,i4,i3⟩:=ih;refine⟨j+1,?_,?_,⟨p,List.mem_cons_of_mem _ hp,Qw⟩,i4,?_⟩
     ·simp only[Instr.findNow,h1,hs];rw[i1]
      congr 3
      omega
     ·simpa using i2
     ·simp only[putKey,he,List.map_cons,←i3,List.modify_succ_cons,h1,h2]
   ·simp at hf
theorem run_findKey{t:TypeId}{kk:IntKind}{K:Value}{ms:List MapEntry}{q:Option (Nat×Value)}(hu:P.underlying t=some (.int kk))(hf:Instr.findNow (.int kk) K ms 0=some q):(Instr.findKey t K ms).run P w=.ok q w:=by
 unfold Instr.findKey;rw[Sem.run_bind,run_underlying hu];simp only[Result.andThen,hf,Sem.run_pure]
theorem vB{st:Nat}{v:AV}:∀(es:List (AV×AV)) (bs:List Nat) (ms:List MapEntry),ms.map (fun m=>(m.key,m.val))=es.map (fun p=>(real ρ p.1,real ρ p.2))→ms.map (fun m=>m.born)=bs→
  (∀p∈es,p.1.aP D∧p.2.aP D)→pY st bs es=some v→∃k u,v=.cC [k,u]∧∃e:MapEntry,ms.find? (fun x=>x.born==st)=some e∧real ρ k=e.key∧real ρ u=e.val∧k.aP D∧u.aP D
 |[],bs,ms,hm,hb,hd,hv=>by cases bs<;>simp[pY] at hv
 |(k,u)::es,[],ms,hm,hb,hd,hv=>by simp[pY] at hv
 |(k,u)::es,b::bs,[],hm,hb,hd,hv=>by simp at hm
 |(k,u)::es,b::bs,m::ms,hm,hb,hd,hv=>by
  simp only[List.map_cons,List.cons.injEq,Prod.mk.injEq] at hm hb;simp only[pY] at hv;cases Rs:Nat.beq b st with
  |true=>
   simp only[Rs,cond_true,Option.some.injEq] at hv;have:=Nat.eq_of_beq_eq_true Rs;exact⟨k,u,hv.symm,m,by simp[List.find?_cons,hb.1,this],hm.1.1.symm,hm.1.2.symm,(hd _ List.mem_cons_self).1,(hd _ List.mem_cons_self).2⟩
  |false=>
   simp only[Rs,cond_false] at hv;obtain⟨k',u',rfl,e,h1,h2⟩:=vB es bs ms hm.2 hb.2 (fun p hp=>hd p (List.mem_cons_of_mem _ hp)) hv;have hne:(m.born==st)=false:=by
    rw[hb.1];cases hx:(b==st) with
    |false=>rfl
    |true=>rw[beq_iff_eq.1 hx,Nat.beq_refl] at Rs;simp at Rs
   exact⟨k',u',rfl,e,by rw[List.find?_cons,hne];exact h1,h2⟩
theorem xY:∀{cs:List AV} {s:List UInt8},cK cs=some s→∃ns:List Int,aa ρ cs=ns.map (Value.int .u8)∧ns.foldl (fun(r:ByteArray) n=>r.push (UInt8.ofNat n.toNat)) ByteArray.empty=⟨s.toArray⟩:=by
 have key:∀(cs:List AV) (s:List UInt8),cK cs=some s→∃ns:List Int,aa ρ cs=ns.map (Value.int .u8)∧∀l:List UInt8,ns.foldl (fun(r:ByteArray) n=>r.push (UInt8.ofNat n.toNat)) ⟨l.toArray⟩=⟨(l++s).toArray⟩:=by
  intro cs;induction cs with
  |nil=>
   intro s hs;simp only[cK,Option.some.injEq] at hs;subst hs;exact⟨[],by simp[aa],fun l=>by simp⟩
  |cons c cs ih=>
   intro s hs;cases c with
   |int k m=>
    cases k<;>simp only[cK,Option.map_eq_some_iff] at hs<;>try(simp at hs;done)
    obtain⟨s',h1,rfl⟩:=hs;obtain⟨ns,g1,g2⟩:=ih s' h1;refine⟨m::ns,by simp[aa,real,g1],fun l=>?_⟩;simp only[List.foldl_cons];have:(ByteArray.push ⟨l.toArray⟩ (UInt8.ofNat m.toNat))=⟨(l++[UInt8.ofNat m.toNat]).toArray⟩:=by
     simp[ByteArray.push]
    rw[this,g2];simp
   |_=>simp[cK] at hs
 intro cs s hs;obtain⟨ns,g1,g2⟩:=key cs s hs;exact⟨ns,g1,g2 []⟩
theorem Ca{o:Oper}{op:CC}{rs:List bA}{v:AV}(he:bz ρ D n env a)(i:Inv P H0 ρ D h w)(hc:an P o.op=some (.r op,rs))(hv:rI op (rs.map env.ev) h=some v):
  xx P ρ D w (execOp a.eval o) v:=by
 cases ho:o.op<;>rw[ho] at hc
 case load t x=>
  simp only[an] at hc;split at hc
  ·rename_i k hg hk;obtain⟨hq,hr⟩:=aN hc;simp only[fh.r.injEq] at hq;subst hq;obtain⟨r,rfl,h1⟩:=eE hr;have e1:=aD he h1;simp only[List.map_cons,List.map_nil] at hv;cases hx:env.ev r with
   |ptr b o'=>
    rw[hx] at hv e1;simp only[AV.aP] at e1;simp only[rI,Option.map_eq_some_iff] at hv;obtain⟨cs,hl,rfl⟩:=hv;have hrun:=bQ (P:=P) i e1.2 hl;unfold execOp;rw[ho];refine bC ?_ (by simp only[AV.aP];exact hrun.2);simp only[Instr.loadAt,e1.1,real,Instr.sureAddr,Sem.run_bind,Sem.run_pure,Result.andThen,loadVar,kT hg,if_true,run_sizeOf hk,hrun.1]
   |_=>rw[hx] at hv;simp[rI] at hv
  ·rename_i k hg hk;obtain⟨hq,hr⟩:=aN hc;simp only[fh.r.injEq] at hq;subst hq;obtain⟨r,rfl,h1⟩:=eE hr;have e1:=aD he h1;simp only[List.map_cons,List.map_nil] at hv;cases hx:env.ev r with
   |ptr b o'=>
    rw[hx] at hv e1;simp only[AV.aP] at e1;simp only[rI] at hv;have iL:=cell_of i e1.2 hv;unfold execOp;rw[ho];refine bC ?_ iL.2;simp only[Instr.loadAt,e1.1,real,Instr.sureAddr,Sem.run_bind,Sem.run_pure,Result.andThen,loadVar,kT hg,Bool.false_eq_true,if_false];rw[run_load,iL.1]
   |_=>rw[hx] at hv;simp[rI] at hv
  ·simp at hc
 case convert src dst x=>
  simp only[an] at hc;split at hc
  ·exfalso;obtain⟨hq,_⟩:=aN hc;simp at hq
  ·exfalso;obtain⟨hq,_⟩:=aN hc;simp at hq
  ·exfalso;split at hc
   ·obtain⟨hq,_⟩:=aN hc;simp at hq
   ·simp at hc
  ·rename_i e hs hd;split at hc
   ·rename_i Tz;obtain⟨hq,hr⟩:=aN hc;simp only[fh.r.injEq] at hq;subst hq;obtain⟨r,rfl,h1⟩:=eE hr;have e1:=aD he h1;simp only[List.map_cons,List.map_nil] at hv;unfold execOp;rw[ho];simp only[e1.1];cases hx:env.ev r with
    |aq=>
     rw[hx] at hv;cases hv
     refine bC ?_ (by simp[AV.aP]);show(convert src dst (.slice none 0 0)).run P w=_;rw[run_convert_bytes_string w src dst e none 0 0 hs Tz hd];rfl
    |fe wa=>
     rw[hx] at hv;cases hv
     refine bC ?_ (by simp[AV.aP]);simp only[real];rw[run_convert_bytes_string w src dst e _ _ _ hs Tz hd,run_bytesToString w _ 0 _ [] (by simp[loadCells,loadCellsFrom])];rfl
    |rest b o j=>
     rw[hx] at hv;cases hv
     refine bC ?_ (by simp[AV.aP]);simp only[real];rw[run_convert_bytes_string w src dst e _ _ _ hs Tz hd,run_bytesToString w _ 0 _ [] (by simp[loadCells,loadCellsFrom])];rfl
    |sl b o len cap jl=>
     rw[hx] at hv e1;simp only[AV.aP] at e1;simp only[rI] at hv;split at hv
     ·rename_i cs hl;simp only[Option.map_eq_some_iff] at hv;obtain⟨s,hsb,rfl⟩:=hv;have hrun:=bQ (P:=P) i e1.2 hl;obtain⟨ns,R4,hss⟩:=xY (ρ:=ρ) hsb;rw[R4] at hrun;refine bC ?_ (by simp[AV.aP]);simp only[real];rw[run_convert_bytes_string w src dst e _ _ _ hs Tz hd,run_bytesToString w _ len _ ns hrun.1,hss]
     ·simp at hv
    |_=>rw[hx] at hv;simp[rI] at hv
   ·simp at hc
  ·simp at hc
 case unOp u t x=>
  exfalso;cases u<;>simp only[an] at hc<;>first
   |(obtain⟨_,_,h2⟩:=aU hc;simp at h2;done)
   |(simp at hc;done)
 case lookup t m k ok=>
  simp only[an] at hc;split at hc
  ·rename_i kt e hu;split at hc
   ·rename_i kk hk;simp only[Option.bind_eq_some_iff] at hc;obtain⟨z,hz,hc⟩:=hc;obtain⟨hq,hr⟩:=aN hc;simp only[fh.r.injEq] at hq;subst hq;obtain⟨r,q,rfl,h1,h2⟩:=fA hr;have e1:=aD he h1;have e2:=aD he h2;have xP:=cF (P:=P) (w:=w) hz ρ D;simp only[List.map_cons,List.map_nil] at hv;unfold execOp;rw[ho];simp only[e1.1,e2.1];cases hr':env.ev r with
    |map b=>
     rw[hr'] at hv e1;simp only[AV.aP] at e1;simp only[rI] at hv;split at hv
     ·rename_i es bs c hg;obtain⟨ms,clock,hcell,oQ,sS,vN,-⟩:=i.bB b _ e1.2 hg;have bW:(getObj (ρ b).bB).run P w=.ok (.map ms clock) w:=by simp[getObj,Sem.run,hcell]
      split at hv
      ·rename_i u hf;simp only[Option.some.injEq] at hv;subst hv;obtain⟨j,f1,-,⟨p,hp,Qw⟩,-,-⟩:=kE (ρ:=ρ) (kk:=kk) (v:=.undef) es ms.toList 0 sS hf;have Sh:u.aP D:=Qw▸(vN p hp).2;refine bC ?_ (by cases ok<;>simp[AV.aP,aW,Sh]);simp only[Instr.lookup,real,Sem.run_bind,run_underlying hu,Result.andThen,bW,rD hk,run_findKey hk f1,Sem.run_pure];cases ok<;>simp[real,aa]
      ·rename_i hf;simp only[Option.some.injEq] at hv;subst hv;obtain⟨f1,-⟩:=kE (ρ:=ρ) (kk:=kk) (v:=.undef) es ms.toList 0 sS hf;refine bC ?_ (by cases ok<;>simp[AV.aP,aW,xP.2]);simp only[Instr.lookup,real,Sem.run_bind,run_underlying hu,Result.andThen,bW,rD hk,run_findKey hk f1,Sem.run_pure,xP.1];cases ok<;>simp[real,aa]
      ·simp at hv
     ·simp at hv
    |ji=>
     rw[hr'] at hv e1;simp only[rI,Option.some.injEq] at hv;subst hv;refine bC ?_ (by cases ok<;>simp[AV.aP,aW,xP.2]);simp only[Instr.lookup,real,Sem.run_bind,run_underlying hu,Result.andThen,rD hk,run_findKey hk (ms:=[]) rfl,Sem.run_pure,xP.1];cases ok<;>simp[real,aa]
    |_=>rw[hr'] at hv;simp[rI] at hv
   ·exfalso;obtain⟨hq,_⟩:=aN hc;simp at hq
   ·exfalso;obtain⟨hq,_⟩:=aN hc;simp at hq
   ·simp at hc
  ·simp at hc
 case entry it=>
  simp only[an] at hc;obtain⟨hq,hr⟩:=aN hc;simp only[fh.r.injEq] at hq;subst hq;obtain⟨r,rfl,h1⟩:=eE hr;have e1:=aD he h1;simp only[List.map_cons,List.map_nil] at hv;have hx:∃it',env.ev r=.ptr it' 0:=by
   cases hx:env.ev r with
   |ptr it' oo=>cases oo with
    |zero=>exact⟨it',rfl⟩
    |succ oo=>rw[hx] at hv;simp[rI] at hv
   |_=>rw[hx] at hv;simp[rI] at hv
  obtain⟨it',hx⟩:=hx;rw[hx] at e1 hv;simp only[AV.aP] at e1;simp only[rI] at hv;split at hv
  ·rename_i m since seen last hg;split at hv
   ·rename_i st es bs c hst hm;cases hb:Nat.beq c last with
    |false=>simp[hb] at hv
    |true=>
     simp only[hb,cond_true] at hv;have iL:=Nat.eq_of_beq_eq_true hb;obtain⟨_,Dv,Qt,sn,hcell,Md⟩:=i.bB it' _ e1.2 hg;obtain⟨ms,clock,vM,_,sS,vN,CG,rL⟩:=i.bB m _ Dv hm;obtain⟨k,u,rfl,e,hf,uX,hk2,Du,Nt⟩:=vB (ρ:=ρ) (D:=D) es bs ms.toList sS rL vN hv;have Bz:sn.back?=some st:=by rw[←Array.getLast?_toList,Md];exact hst
     unfold execOp;rw[ho];refine bC ?_ (by simp[AV.aP,aW,Du,Nt]);have TA:ms.find? (fun x=>x.born==st)=some e:=by rw[←Array.find?_toList];exact hf
     simp only[e1.1,real,Nat.add_zero,Instr.entry,Sem.run_bind,getObj,Sem.run,Qt,hcell,Result.andThen,Bz,vM,CG,iL,bne_self_eq_false,Bool.false_eq_true,if_false,TA,uX,hk2,aa];rfl
   ·simp at hv
  ·simp at hv
 case next it s=>
  exfalso;cases s with
  |true=>simp[an] at hc
  |false=>simp only[an] at hc;obtain⟨hq,_⟩:=aN hc;simp at hq
 case makeMap t r=>
  exfalso;cases r with
  |none=>simp only[an] at hc;obtain⟨hq,_⟩:=aN hc;simp at hq
  |some r=>simp[an] at hc
 all_goals (exfalso;simp only[an] at hc)
 all_goals repeat' (first
  |(simp only[Option.bind_eq_some_iff] at hc;obtain⟨_,_,hc⟩:=hc)
  |(simp only[Option.map_eq_some_iff] at hc;obtain⟨_,_,hc⟩:=hc;simp at hc;done)
  |(obtain⟨_,_,h2⟩:=aU hc;simp at h2;done)
  |(simp at hc;done)
  |(split at hc))
theorem DI(hm:∀b x,h.get b=some x→h'.get b=some x){b o:Nat}{v:AV}(hl:h.c8 b o=some v):h'.c8 b o=some v:=by
 unfold Heap.c8 Heap.row at hl⊢;cases hg:h.get b with
 |none=>simp[hg] at hl
 |some x=>rw[hm b x hg];simpa[hg] using hl
theorem v7(hm:∀b x,h.get b=some x→h'.get b=some x){b o k:Nat}{v:List AV}(hl:h.bI b o k=some v):h'.bI b o k=some v:=by
 unfold Heap.bI Heap.row at hl⊢;cases hg:h.get b with
 |none=>simp[hg] at hl
 |some x=>rw[hm b x hg];simpa[hg] using hl
theorem Sy{b:Nat}(hb:h'.get b=h.get b)(o:Nat):h'.c8 b o=h.c8 b o:=by
 unfold Heap.c8 Heap.row;rw[hb]
theorem Fc(hm:∀b x,h.get b=some x→h'.get b=some x){op:CC}{vals:List AV}{v:AV}(hv:rI op vals h=some v):rI op vals h'=some v:=by
 unfold rI at hv⊢;split at hv
 ·exact DI hm hv
 ·simp only[Option.map_eq_some_iff] at hv⊢;obtain⟨cs,hl,rfl⟩:=hv;exact⟨cs,v7 hm hl,rfl⟩
 ·rename_i ok zero b k;cases hg:h.get b with
  |none=>simp[hg] at hv
  |some x=>rw[hm b x hg];rw[hg] at hv;exact hv
 ·exact hv
 ·exact hv
 ·exact hv
 ·exact hv
 ·rename_i b o len _ _;cases hl:h.bI b o len with
  |none=>simp[hl] at hv
  |some cs=>rw[v7 hm hl];rw[hl] at hv;exact hv
 ·exact hv
 ·rename_i b;cases hg:h.get b with
  |none=>simp[hg] at hv
  |some x=>rw[hm b x hg];rw[hg] at hv;exact hv
 ·rename_i it;cases hg:h.get it with
  |none=>simp[hg] at hv
  |some x=>
   rw[hm it x hg];rw[hg] at hv;split at hv
   ·rename_i m since seen last heq;simp only[Option.some.injEq] at heq;subst heq;split at hv
    ·rename_i st es bs c h1 h2;rw[h1,hm m _ h2];exact hv
    ·simp at hv
   ·simp at hv
 ·simp at hv
def vc(P:Program)(H0:Nat)(ρ:cn)(D:Dom)(h:Heap)(w:World)(s:Sem Next)(v:AV)(h':Heap):Prop:=
 ∃ρ' w',(s.run P w=.ok (.value (real ρ' v)) w'∨(s.run P w=.ok .skip w'∧v=.undef))∧
  Inv P H0 ρ' (grow D h.next h'.next) h' w'∧Ext ρ D h w ρ' h' w'∧v.aP (grow D h.next h'.next)
theorem setRow_size(w:World)(g:Nat)(o:Obj):(setRow w g o).heap.size=w.heap.size:=by simp[setRow]
theorem nW(i:Inv P H0 ρ D h w){b o:Nat}{xs:List AV}(hd:D b)(hx:aW D xs)(hs:h.cJ b o xs=some h'):
  h'.next=h.next∧∃w',(storeCells ⟨(ρ b).bB,(ρ b).off+o,none⟩ (aa ρ xs)).run P w=.ok () w'∧Inv P H0 ρ D h' w'∧Ext ρ D h w ρ h' w':=by
 unfold Heap.cJ at hs;split at hs
 ·rename_i vs es hg;cases hc:(Nat.ble (o+xs.length) vs.length&&bY xs) with
  |false=>simp[hc] at hs
  |true=>
   simp only[hc,cond_true,Option.some.injEq] at hs;subst hs;simp only[Bool.and_eq_true] at hc;have hle:=Nat.le_of_ble_eq_true hc.1;obtain⟨c,t,fr,hcell,h1,h2⟩:=i.bB b _ hd hg;obtain⟨h3,h4,h5⟩:=h2 rfl;have gT:h.wr b=true:=by simp[Heap.wr,hg]
   have hrun:=iT (P:=P) (ρ b).bB t fr (aa ρ xs) ((ρ b).off+o) 0 c w hcell (by
     intro v hv;rw[cq] at hv;obtain⟨x,hx',rfl⟩:=List.mem_map.1 hv;exact vF (pZ hc.2 x hx')) (by rw[aK];omega) h5
   refine⟨rfl,_,hrun,?_⟩;have hlt:=(Array.getElem?_eq_some_iff.1 hcell).1;refine pJ i hd gT rfl (setRow_size _ _ _) (fun r hr=>by rw[cY,if_neg hr]) rfl rfl rfl ?_;refine⟨_,t,fr,by rw[cY,if_pos rfl,if_pos hlt],?_,fun _=>⟨h3,?_,?_⟩⟩
   ·intro j v hj;rw[Heap.ei _ _ _ _ hle] at hj;rw[List.getElem?_toArray,Heap.ei _ _ _ _ (by simp[aK];omega),aK];split at hj
    ·rename_i VY;rw[if_pos ⟨by omega,by omega⟩];refine⟨?_,(aL D xs).1 hx v (List.mem_of_getElem? hj)⟩;rw[dM,show(ρ b).off+j-((ρ b).off+o+0)=j-o by omega,hj];rfl
    ·rename_i VY;rw[if_neg (by omega)];have:=h1 j v hj;exact⟨by simpa using this.1,this.2⟩
   ·simp only[List.size_toArray,Heap.dJ,Array.length_toList];exact h4
   ·simpa[Heap.dJ] using h5
 ·simp at hs
end
end Ads
end Go.Proofs.Ytecdcefacdodgaa
set_option linter.unusedSimpArgs false
set_option linter.unusedVariables false
namespace Go.Proofs.Ytecdcefacdodgaa
namespace Ads
section
variable {P:Program} {H0:Nat} {ρ:cn} {D:Dom} {h h':Heap} {w:World} {n:Nat} {env:Env} {a:Act}
theorem DJ{b o k m:Nat}{vs:List AV}(hl:h.bI b o k=some vs)(hm:m≤k):h.bI b o m=some (vs.take m):=by
 unfold Heap.bI at hl⊢;cases hr:h.row b with
 |none=>simp[hr] at hl
 |some xs=>
  simp only[hr] at hl⊢;cases hb:Nat.ble (o+k) xs.length with
  |false=>simp[hb] at hl
  |true=>
   simp only[hb,cond_true,Option.some.injEq] at hl;have hle:=Nat.le_of_ble_eq_true hb;have:Nat.ble (o+m) xs.length=true:=Nat.ble_eq_true_of_le (by omega);simp only[this,cond_true,Option.some.injEq];rw[←hl,List.take_take,Nat.min_eq_left hm]
theorem lS(i:Inv P H0 ρ D h w){size k:Nat}{x:AV}{cs:List AV}(hd:x.aP D)(hs:aM size h x=some (k,cs)):
  (Builtin.lenOf (real ρ x)).run P w=.ok k w∧aW D cs∧
  ((∀s,x≠.str s)→∀m,m≤k→(Builtin.firstCells size m (real ρ x)).run P w=.ok (aa ρ (cs.take (m*size))).toArray w)∧
  (Builtin.firstCells size k (real ρ x)).run P w=.ok (aa ρ cs).toArray w:=by
 cases x with
 |aq=>
  simp only[aM,Option.some.injEq,Prod.mk.injEq] at hs;obtain⟨rfl,rfl⟩:=hs;exact⟨by simp[Builtin.lenOf,real],by simp[aW],fun _ m _=>by simp[Builtin.firstCells,real,aa],by simp[Builtin.firstCells,real,aa]⟩
 |fe wa=>
  simp only[aM,Option.some.injEq,Prod.mk.injEq] at hs;obtain⟨rfl,rfl⟩:=hs;refine⟨by simp[Builtin.lenOf,real],by simp[aW],fun _ m hm=>?_,by simp[Builtin.firstCells,real,aa,loadCells,loadCellsFrom]⟩;have:m=0:=by omega
  subst this;simp[Builtin.firstCells,real,aa,loadCells,loadCellsFrom]
 |rest b o j=>
  simp only[aM,Option.some.injEq,Prod.mk.injEq] at hs;obtain⟨rfl,rfl⟩:=hs;refine⟨by simp[Builtin.lenOf,real],by simp[aW],fun _ m hm=>?_,by simp[Builtin.firstCells,real,aa,loadCells,loadCellsFrom]⟩;have:m=0:=by omega
  subst this;simp[Builtin.firstCells,real,aa,loadCells,loadCellsFrom]
 |sl b o len cap jl=>
  simp only[aM,Option.map_eq_some_iff,Prod.mk.injEq] at hs;obtain⟨cs',hl,rfl,rfl⟩:=hs;simp only[AV.aP] at hd;have hfull:=bQ (P:=P) i hd hl;refine⟨by simp[Builtin.lenOf,real],hfull.2,fun _ m hm=>?_,?_⟩
  ·have:=bQ (P:=P) i hd (DJ hl (Nat.mul_le_mul_right size hm));simp only[Builtin.firstCells,real];exact this.1
  ·simp only[Builtin.firstCells,real];exact hfull.1
 |str s=>
  simp only[aM] at hs;cases h1:Nat.beq size 1 with
  |false=>simp[h1] at hs
  |true=>
  simp only[h1,cond_true,Option.some.injEq,Prod.mk.injEq] at hs;obtain⟨rfl,rfl⟩:=hs;have hsz:(⟨s.toArray⟩:ByteArray).size=s.length:=by simp only[ByteArray.size,List.size_toArray]
  refine⟨by simp only[Builtin.lenOf,real,Sem.run_pure,hsz],?_,fun hne=>absurd rfl (hne s),?_⟩
  ·rw[aL];intro v hv;obtain⟨b,_,rfl⟩:=List.mem_map.1 hv;simp[AV.aP]
  ·simp only[Builtin.firstCells,real,Sem.run_pure]
   congr 1
   have:(⟨s.toArray⟩:ByteArray).extract 0 s.length=⟨s.toArray⟩:=by
    apply ByteArray.ext;rw[ByteArray.data_extract];apply Array.ext';simp
   rw[this];apply Array.ext';simp[cq,real,Function.comp_def]
 |_=>simp[aM] at hs
theorem je(z:Array Value)(k:Nat):(Builtin.zeroCells z k).size=k*z.size:=by simp[Builtin.zeroCells]
theorem p6(i:Inv P H0 ρ D h w){cs:List AV}(t:TypeId)(es extra:Nat)(rest:Array Value)(hd:aW D cs)(hr:rest.size=extra*es):
  let L:Loc:=⟨w.heap.size,0,extra⟩
  Inv P H0 (kW ρ h.next L) (grow D h.next (h.next+1)) (h.new (.cells cs true es)) (w.drew.alloc (.cells ((aa ρ cs).toArray++rest) t))∧
  Ext ρ D h w (kW ρ h.next L) (h.new (.cells cs true es)) (w.drew.alloc (.cells ((aa ρ cs).toArray++rest) t)):=by
 intro L;refine pH i _ extra (.cells ((aa ρ cs).toArray++rest) t) rfl rfl rfl rfl ?_;have fI:∀b,D b→kW ρ h.next L b=ρ b:=fun b hb=>jD _ _ (by have:=i.lt b hb;omega);refine⟨_,t,(0,0),jr w.drew _,?_,fun _=>⟨i.low,?_,fun j h1 h2=>by simp at h2⟩⟩
 ·intro j v hj;have hjl:j<cs.length:=(List.getElem?_eq_some_iff.1 hj).1;have hv:=(aL D cs).1 hd v (List.mem_of_getElem? hj);refine⟨?_,cz (fun _=>.inl) v hv⟩;rw[bU fI v hv];simp only[Nat.zero_add];rw[Array.getElem?_append_left (by simp[aK];exact hjl),List.getElem?_toArray,dM,hj];rfl
 ·simp[aK,hr]
theorem jV(ρ:cn)(l m:List AV):(aa ρ l).toArray++(aa ρ m).toArray=(aa ρ (l++m)).toArray:=by
 rw[gF];simp
theorem sF{t u e ty:TypeId}{z:AV}{size bytes k m cap:Nat}{base:Option Addr}{xv:Value}{old new:Array Value}{d:TypeDesc}(hu:P.underlying t=some (.slice e))(hd:P.underlying u=some d)(hx:oT d=true)
  (hs:ep P e=some size)(hb:qU P e=some bytes)(hz:mB P e=some z)
  (hlen:(Builtin.lenOf xv).run P w=.ok m w)(hold:(Builtin.firstCells size k (.slice base k cap)).run P w.drew=.ok old w.drew)
  (hnew:(Builtin.firstCells size m xv).run P w.drew=.ok new w.drew)(hgt:¬k+m≤cap)(r6:(k+m)*bytes≤140737488355328)(jf:k+m≤9223372036854775807):
  ∃DL,k+m≤DL∧(Builtin.append_ #[t,u] ty #[.slice base k cap,xv]).run P w=
   .ok (.slice (some ⟨w.heap.size,0,none⟩) (k+m) DL) (w.drew.alloc (.cells (old++new++Builtin.zeroCells (real ρ z).cells (DL-(k+m))) e)):=by
 obtain⟨i,hi,Ma⟩:∃i,P.info? e=some i∧i.bytes=bytes:=by
  simp only[qU,Option.map_eq_some_iff] at hb;obtain⟨i,hi,hb⟩:=hb;exact⟨i,hi,hb⟩
 have hzd:(zeroValue e).run P w.drew=.ok (real ρ z) w.drew:=(cF hz ρ (fun _=>True)).1;have hsz:(sizeOf e).run P w=.ok size w:=run_sizeOf hs;have Wa:=nextslicecap_le (need:=k+m) (old:=cap) (by omega);refine⟨(Question.appendCap (k+m) cap e).cut (w.tape w.drawn (.appendCap (k+m) cap e)),Nat.le_add_right _ _,?_⟩;have h63:¬(9223372036854775807<((k:Int)+(m:Int))):=by omega
 have h48:¬(281474976710656<Builtin.nextslicecap (k+m) cap*bytes):=by
  have:Builtin.nextslicecap (k+m) cap*bytes≤2*(k+m)*bytes:=Nat.mul_le_mul_right _ Wa;have h3:2*(k+m)*bytes=2*((k+m)*bytes):=Nat.mul_assoc _ _ _;omega
 cases d<;>simp[oT] at hx
 ·simp[Builtin.append_,run_underlying hu,run_underlying hd,hsz,run_typeInfo hi,Ma,hlen,hgt,h63,h48,Question.forced,hold,hnew,hzd,gy,Result.andThen]
 ·simp[Builtin.append_,run_underlying hu,run_underlying hd,hsz,run_typeInfo hi,Ma,hlen,hgt,h63,h48,Question.forced,hold,hnew,hzd,gy,Result.andThen]
theorem ni{t u e ty:TypeId}{size k m cap:Nat}{base:Option Addr}{xv:Value}{new:Array Value}{d:TypeDesc}{w':World}(hu:P.underlying t=some (.slice e))(hd:P.underlying u=some d)(hx:oT d=true)
  (hs:ep P e=some size)(hlen:(Builtin.lenOf xv).run P w=.ok m w)(hnew:(Builtin.firstCells size m xv).run P w=.ok new w)(hle:k+m≤cap)
  (hst:∀a,base=some a→(storeCells (a.add (k*size)) new.toList).run P w=.ok () w')(hn:base=none→w'=w):
  (Builtin.append_ #[t,u] ty #[.slice base k cap,xv]).run P w=.ok (.slice base (k+m) cap) w':=by
 have hsz:(sizeOf e).run P w=.ok size w:=run_sizeOf hs;cases base with
 |none=>
  have:=hn rfl;subst this;cases d<;>simp[oT] at hx
  ·simp[Builtin.append_,run_underlying hu,run_underlying hd,hsz,hlen,hle,hnew,Result.andThen]
  ·simp[Builtin.append_,run_underlying hu,run_underlying hd,hsz,hlen,hle,hnew,Result.andThen]
 |some a=>
  have h1:=hst a rfl;cases d<;>simp[oT] at hx
  ·simp[Builtin.append_,run_underlying hu,run_underlying hd,hsz,hlen,hle,hnew,h1,Result.andThen]
  ·simp[Builtin.append_,run_underlying hu,run_underlying hd,hsz,hlen,hle,hnew,h1,Result.andThen]
end
end Ads
end Go.Proofs.Ytecdcefacdodgaa
set_option linter.unusedSimpArgs false
set_option linter.unusedVariables false
namespace Go.Proofs.Ytecdcefacdodgaa
namespace Ads
section
variable {P:Program} {H0:Nat} {ρ:cn} {D:Dom} {h h':Heap} {w:World} {n:Nat} {env:Env} {a:Act}
theorem rT(i:Inv P H0 ρ D h w):Inv P H0 ρ D h w.drew where
 lt:=i.lt
 top:=i.top
 low:=i.low
 bB:=fun b x hd hx=>bG (i.bB b x hd hx) (fun _=>id) (fun _ _=>rfl) rfl
 apart:=i.apart
theorem LG(i:Inv P H0 ρ D h w){b:Nat}(hd:D b):Inv P H0 ρ D (h.del b) w∧Ext ρ D h w ρ (h.del b) w:=by
 have bW:∀c x,(h.del b).get c=some x→h.get c=some x:=by
  intro c x hx;rw[Heap.cH] at hx;split at hx
  ·simp at hx
  ·exact hx
 have gT:∀c,(h.del b).wr c=true→h.wr c=true:=by
  intro c hx;rw[xq] at hx;split at hx
  ·simp at hx
  ·exact hx
 constructor
 ·refine⟨i.lt,?_,i.low,fun c x hc hx=>i.bB c x hc (bW c x hx),?_⟩
  ·intro c hc;rw[Heap.cH];split
   ·rfl
   ·exact i.top c hc
  ·intro c c' hc ju hne hw hg;refine i.apart c c' hc ju hne (gT c hw) ?_;cases hx:(h.del b).get c' with
   |none=>exact absurd hx hg
   |some x=>rw[bW c' x hx];simp
 ·refine⟨Nat.le_refl _,fun _ _=>rfl,Nat.le_refl _,fun _ _ _=>rfl,?_,?_,fun _ h1 h2=>by simp at h2;omega,rfl,rfl,rfl⟩
  ·intro c _ hc;rw[Heap.cH,if_neg (fun e=>hc (by rw[e];exact hd))]
  ·intro c _ hn;rw[Heap.cH] at hn;rw[xq];split at hn
   ·simp at hn
   ·rename_i hne;rw[if_neg hne];exact⟨hn,id⟩
theorem nV{size m:Nat}{h:Heap}{x:AV}{new:List AV}(hsc:aM size h x=some (m,new)):new.length=m*size:=by
 cases x with
 |aq=>simp[aM] at hsc;obtain⟨rfl,rfl⟩:=hsc;simp
 |fe wa=>simp[aM] at hsc;obtain⟨rfl,rfl⟩:=hsc;simp
 |rest b o j=>simp[aM] at hsc;obtain⟨rfl,rfl⟩:=hsc;simp
 |sl b2 o2 l2 c2 Xz=>
  simp only[aM,Option.map_eq_some_iff,Prod.mk.injEq] at hsc;obtain⟨cs2,Nw,rfl,rfl⟩:=hsc;exact(gr Nw).1
 |str s2=>
  simp only[aM] at hsc;cases h1:Nat.beq size 1 with
  |false=>simp[h1] at hsc
  |true=>
   simp only[h1,cond_true,Option.some.injEq,Prod.mk.injEq] at hsc;obtain⟨rfl,rfl⟩:=hsc;rw[Nat.eq_of_beq_eq_true h1];simp
 |_=>simp[aM] at hsc
theorem AP{o:Oper}{c:Call}{s x:Operand}{t u:TypeId}{ts:List TypeId}{e:TypeId}{d:TypeDesc}{size bytes:Nat}{z:AV}{rs:List bA}{v:AV}{op:yb}
  (he:bz ρ D n env a)(i:Inv P H0 ρ D h w)(ho:o.op=.call c)(hcb:c.callee=.builtin .append)(hargs:c.args.toList=[s,x])(ej:c.argTypes.toList=t::u::ts)
  (hu:P.underlying t=some (.slice e))(hd:P.underlying u=some d)(hsrc:oT d=true)(hsz:ep P e=some size)(hb:qU P e=some bytes)(hz:mB P e=some z)
  (hzl:z.cells.length=size)(hc:one (.e (.append size bytes)) [s,x]=some (.e op,rs))(hv:eI op (rs.map env.ev) h=some (v,h')):
  vc P H0 ρ D h w (execOp a.eval o) v h':=by
 obtain⟨hq,hr⟩:=aN hc;simp only[fh.e.injEq] at hq;subst hq;obtain⟨r,q,rfl,h1,h2⟩:=fA hr;have e1:=aD he h1;have e2:=aD he h2;rw[gC o c .append ho hcb,dN hargs (ys:=[real ρ (env.ev r),real ρ (env.ev q)]) (by simp[e1.1,e2.1])];simp only[List.map_cons,List.map_nil,eI] at hv;have vL:∃ts',c.argTypes=(t::u::ts').toArray:=⟨ts,nt ej⟩;obtain⟨ts',vL⟩:=vL;have Oz:∀(x y:Value),Builtin.append_ (t::u::ts').toArray o.type #[x,y]=Builtin.append_ #[t,u] o.type #[x,y]:=by
  intro x y;simp[Builtin.append_]
 rw[vL];have yG:∀(l:Array Bool) (xs:List Value),builtin .append (t::u::ts').toArray o.type l xs.toArray=(do pure (.value (←Builtin.append_ (t::u::ts').toArray o.type xs.toArray))):=fun _ _=>rfl;rw[yG];rw[show([real ρ (env.ev r),real ρ (env.ev q)]:List Value).toArray=#[real ρ (env.ev r),real ρ (env.ev q)] from rfl,Oz];have fin:∀{ρ':cn} {w':World} {v:AV},(Builtin.append_ #[t,u] o.type #[real ρ (env.ev r),real ρ (env.ev q)]).run P w=.ok (real ρ' v) w'→
   (do pure (.value (←Builtin.append_ #[t,u] o.type #[real ρ (env.ev r),real ρ (env.ev q)])):Sem Next).run P w=.ok (.value (real ρ' v)) w':=by
  intro ρ' w' v hh;rw[Sem.run_bind,hh];rfl
 cases hsc:aM size h (env.ev q) with
 |none=>simp[hsc] at hv
 |some km=>
  obtain⟨m,new⟩:=km;simp only[hsc] at hv;have hs:=lS (P:=P) i e2.2 hsc;have hs':=lS (P:=P) (rT i) e2.2 hsc;obtain⟨hlen,CI,_,hnew⟩:=hs;have BI:=hs'.2.2.2;cases hfl:bY new with
  |false=>simp[hfl] at hv
  |true=>
   simp only[hfl,cond_true] at hv;cases hr':env.ev r with
   |aq=>
    rw[hr'] at hv;simp only at hv;cases hm0:Nat.beq m 0 with
    |true=>
     have hm:=Nat.eq_of_beq_eq_true hm0;subst hm;simp only[hm0,cond_true,Option.some.injEq,Prod.mk.injEq] at hv;obtain⟨rfl,rfl⟩:=hv;rw[hr'] at fin;refine⟨ρ,w,.inl (fin (ρ':=ρ) (v:=.aq) ?_),by rw[aY];exact i,Ext.refl _ _ _ _,by simp[AV.aP]⟩;exact ni (k:=0) (cap:=0) (base:=none) hu hd hsrc hsz hlen hnew (Nat.le_refl _) (fun _ hh=>by simp at hh) (fun _=>rfl)
    |false=>
     simp only[hm0,cond_false] at hv;cases hg:(Nat.ble (m*bytes) 140737488355328&&Nat.ble m 9223372036854775807) with
     |false=>simp[hg] at hv
     |true=>
      simp only[hg,cond_true,Option.some.injEq,Prod.mk.injEq] at hv;obtain⟨rfl,rfl⟩:=hv;simp only[Bool.and_eq_true] at hg;have g1:=Nat.le_of_ble_eq_true hg.1;have g2:=Nat.le_of_ble_eq_true hg.2;have RW:m≠0:=by intro e;rw[e] at hm0;simp at hm0
      obtain⟨nc,hnc,hrun⟩:=sF (P:=P) (w:=w) (ρ:=ρ) (ty:=o.type) (k:=0) (cap:=0) (base:=none) (old:=#[]) hu hd hsrc hsz hb hz hlen (by simp[Builtin.firstCells]) BI (by omega) (by simpa using g1) (by omega);rw[hr'] at fin;have F7:=p6 i (w:=w) e size (nc-m) (Builtin.zeroCells (real ρ z).cells (nc-m)) CI (by rw[je,dr];simp[aK,hzl]);refine⟨_,_,.inl (fin ?_),F7.1,F7.2,?_⟩
      ·simp only[real,hrun,Nat.zero_add];simp only[Array.empty_append,bE,cond_true,Nat.zero_add,Nat.add_zero]
       congr 2
       omega
      ·simp only[AV.aP,grow];exact .inr ⟨Nat.le_refl _,by simp⟩
   |fe wa=>
    rw[hr'] at hv;simp only at hv;cases hm0:Nat.beq m 0 with
    |true=>
     have hm:=Nat.eq_of_beq_eq_true hm0;subst hm;simp only[hm0,cond_true,Option.some.injEq,Prod.mk.injEq] at hv;obtain⟨rfl,rfl⟩:=hv;rw[hr'] at fin;refine⟨ρ,w,.inl (fin (ρ':=ρ) (v:=.fe wa) ?_),by rw[aY];exact i,Ext.refl _ _ _ _,by simp[AV.aP]⟩;have IC:new=[]:=List.length_eq_zero_iff.1 (by rw[nV hsc];simp);subst IC;exact ni (k:=0) (cap:=0) (base:=some wa) hu hd hsrc hsz hlen hnew (Nat.le_refl _) (fun ad hh=>by simp[aa,storeCells]) (fun hh=>by simp at hh)
    |false=>
     simp only[hm0,cond_false] at hv;cases hg:(Nat.ble (m*bytes) 140737488355328&&Nat.ble m 9223372036854775807) with
     |false=>simp[hg] at hv
     |true=>
      simp only[hg,cond_true,Option.some.injEq,Prod.mk.injEq] at hv;obtain⟨rfl,rfl⟩:=hv;simp only[Bool.and_eq_true] at hg;have g1:=Nat.le_of_ble_eq_true hg.1;have g2:=Nat.le_of_ble_eq_true hg.2;have RW:m≠0:=by intro e;rw[e] at hm0;simp at hm0
      obtain⟨nc,hnc,hrun⟩:=sF (P:=P) (w:=w) (ρ:=ρ) (ty:=o.type) (k:=0) (cap:=0) (base:=some wa) (old:=#[]) hu hd hsrc hsz hb hz hlen (by simp[Builtin.firstCells,loadCells,loadCellsFrom]) BI (by omega) (by simpa using g1) (by omega);rw[hr'] at fin;have F7:=p6 i (w:=w) e size (nc-m) (Builtin.zeroCells (real ρ z).cells (nc-m)) CI (by rw[je,dr];simp[aK,hzl]);refine⟨_,_,.inl (fin ?_),F7.1,F7.2,?_⟩
      ·simp only[real,hrun,Nat.zero_add];simp only[Array.empty_append,bE,cond_true,Nat.zero_add,Nat.add_zero]
       congr 2
       omega
      ·simp only[AV.aP,grow];exact .inr ⟨Nat.le_refl _,by simp⟩
   |sl b o' len cap jl=>
    rw[hr'] at hv e1;simp only at hv;simp only[AV.aP] at e1;rw[hr'] at fin;cases yL:(Nat.beq m 0&&Nat.ble len cap) with
    |true=>
     simp only[yL,cond_true,Option.some.injEq,Prod.mk.injEq] at hv;obtain⟨rfl,rfl⟩:=hv;simp only[Bool.and_eq_true] at yL;have hm0:=Nat.eq_of_beq_eq_true yL.1;have XJ:=Nat.le_of_ble_eq_true yL.2;subst hm0;have IC:new=[]:=by
      have hll:=nV hsc;exact List.length_eq_zero_iff.1 (by rw[hll];simp)
     subst IC;refine⟨ρ,w,.inl (fin (ρ':=ρ) (v:=.sl b o' len cap jl) ?_),by rw[aY];exact i,Ext.refl _ _ _ _,by rw[aY];simpa[AV.aP] using e1.2⟩;simp only[real];refine ni (m:=0) hu hd hsrc hsz hlen hnew ?_ (fun ad hh=>?_) (fun hh=>by simp at hh)
     ·cases jl<;>simp<;>omega
     ·simp[aa,storeCells]
    |false=>
    simp only[yL,cond_false] at hv;cases hfit:Nat.ble (len+m) cap with
    |true=>
     have hle:=Nat.le_of_ble_eq_true hfit;simp only[hfit,cond_true,Option.map_eq_some_iff,Prod.mk.injEq] at hv;obtain⟨h2,hst,rfl,rfl⟩:=hv;obtain⟨di,w',hrun,hinv,mH⟩:=nW (P:=P) i e1.2 CI hst;refine⟨ρ,w',.inl (fin (ρ':=ρ) (v:=.sl b o' (len+m) cap jl) ?_),by rw[di,aY];exact hinv,mH,by rw[di,aY];simpa[AV.aP] using e1.2⟩;simp only[real];refine ni hu hd hsrc hsz hlen hnew ?_ ?_ (fun hh=>by simp at hh)
     ·cases jl<;>simp<;>omega
     ·intro ad hh;simp only[Option.some.injEq] at hh;subst hh;rw[ey];exact hrun
    |false=>
     have hgt:¬len+m≤cap:=fun hle=>by rw[Nat.ble_eq_true_of_le hle] at hfit;simp at hfit
     simp only[hfit,cond_false] at hv;cases hg:(Nat.ble ((len+m)*bytes) 140737488355328&&Nat.ble (len+m) 9223372036854775807) with
     |false=>simp[hg] at hv
     |true=>
      simp only[hg,cond_true] at hv;simp only[Bool.and_eq_true] at hg;have g1:=Nat.le_of_ble_eq_true hg.1;have g2:=Nat.le_of_ble_eq_true hg.2;cases BE:h.get b with
      |none=>simp[BE] at hv
      |some xb=>
       cases xb with
       |cells vs wr es=>
        cases CH:h.bI b o' (len*size) with
        |none=>simp[BE,CH] at hv
        |some old=>
         simp only[BE,CH] at hv;have hlo:=bQ (P:=P) i e1.2 CH;have OR:=bQ (P:=P) (rT i) e1.2 CH;have hcd:aW D (old++new):=by
          rw[aL];intro y hy;rcases List.mem_append.1 hy with hy|hy
          ·exact(aL D _).1 hlo.2 y hy
          ·exact(aL D _).1 CI y hy
         have Nk:∀An,¬len+m≤An→real ρ (.sl b o' len cap jl)=.slice (some ⟨(ρ b).bB,(ρ b).off+o',none⟩) len An→
           ∃nc,len+m≤nc∧(Builtin.append_ #[t,u] o.type #[real ρ (.sl b o' len cap jl),real ρ (env.ev q)]).run P w=
            .ok (.slice (some ⟨w.heap.size,0,none⟩) (len+m) nc) (w.drew.alloc (.cells ((aa ρ (old++new)).toArray++Builtin.zeroCells (real ρ z).cells (nc-(len+m))) e)):=by
          intro An hrc Sa;obtain⟨nc,hnc,hrun⟩:=sF (P:=P) (w:=w) (ρ:=ρ) (ty:=o.type) (k:=len) (cap:=An) (base:=some ⟨(ρ b).bB,(ρ b).off+o',none⟩) (old:=(aa ρ old).toArray) hu hd hsrc hsz hb hz hlen
           (by simp only[Builtin.firstCells];exact OR.1) BI hrc g1 g2
          refine⟨nc,hnc,?_⟩;rw[Sa,hrun,jV]
         have LL:∀(h2:Heap),h2=h.new (.cells (old++new) true size)→∀An,¬len+m≤An→real ρ (.sl b o' len cap jl)=.slice (some ⟨(ρ b).bB,(ρ b).off+o',none⟩) len An→
           vc P H0 ρ D h w (do pure (.value (←Builtin.append_ #[t,u] o.type #[real ρ (.sl b o' len cap jl),real ρ (env.ev q)])):Sem Next) (.sl h.next 0 (len+m) (len+m) true) h2:=by
          rintro h2 rfl An hrc Sa;obtain⟨nc,hnc,hrun⟩:=Nk An hrc Sa;have F7:=p6 i (w:=w) e size (nc-(len+m)) (Builtin.zeroCells (real ρ z).cells (nc-(len+m))) hcd (by rw[je,dr];simp[aK,hzl]);refine⟨_,_,.inl (fin ?_),F7.1,F7.2,?_⟩
          ·rw[hrun];simp only[real,bE,cond_true,Nat.zero_add,Nat.add_zero]
           congr 2
           omega
          ·simp only[AV.aP,grow];exact .inr ⟨Nat.le_refl _,by simp⟩
         cases jl with
         |false=>
          simp only[cond_false,Option.some.injEq,Prod.mk.injEq] at hv;obtain⟨rfl,rfl⟩:=hv;exact LL _ rfl cap hgt (by simp[real])
         |true=>
          simp only[cond_true] at hv;cases hk:(wr&&Nat.beq vs.length (o'+len*size)&&Nat.beq cap len&&Nat.beq es size) with
          |false=>simp[hk] at hv
          |true=>
           simp only[hk,cond_true,Option.some.injEq,Prod.mk.injEq] at hv;obtain⟨rfl,rfl⟩:=hv;simp only[Bool.and_eq_true] at hk;obtain⟨⟨⟨gT,hvl⟩,iL⟩,L8⟩:=hk;have hvl:=Nat.eq_of_beq_eq_true hvl;have iL:=Nat.eq_of_beq_eq_true iL;have L8:=Nat.eq_of_beq_eq_true L8;subst gT iL L8;by_cases hroom:cap+m≤cap+(ρ b).extra
           ·
            obtain⟨c',tt,fr,hcell,r6,jf⟩:=i.bB b _ e1.2 BE;obtain⟨Xa,hb4,Tu⟩:=jf rfl;have II:old.length=cap*es:=(gr CH).1;have hml:new.length=m*es:=by
             cases Qx:env.ev q with
             |aq=>rw[Qx] at hsc;simp[aM] at hsc;obtain⟨rfl,rfl⟩:=hsc;simp
             |fe wa=>rw[Qx] at hsc;simp[aM] at hsc;obtain⟨rfl,rfl⟩:=hsc;simp
             |rest b o j=>rw[Qx] at hsc;simp[aM] at hsc;obtain⟨rfl,rfl⟩:=hsc;simp
             |sl b2 o2 l2 c2 Xz=>
              rw[Qx] at hsc;simp only[aM,Option.map_eq_some_iff,Prod.mk.injEq] at hsc;obtain⟨cs2,Nw,rfl,rfl⟩:=hsc;exact(gr Nw).1
             |str s2=>
              rw[Qx] at hsc;simp only[aM] at hsc;cases h1:Nat.beq es 1 with
              |false=>simp[h1] at hsc
              |true=>
               simp only[h1,cond_true,Option.some.injEq,Prod.mk.injEq] at hsc;obtain⟨rfl,rfl⟩:=hsc;rw[Nat.eq_of_beq_eq_true h1];simp
             |_=>rw[Qx] at hsc;simp[aM] at hsc
            have Ws:h.wr b=true:=by simp[Heap.wr,BE]
            have hlt:=(Array.getElem?_eq_some_iff.1 hcell).1;have sS:m*es≤(ρ b).extra*es:=Nat.mul_le_mul_right _ (by omega);have hme:m*es+((ρ b).extra-m)*es=(ρ b).extra*es:=by rw[←Nat.add_mul];congr 1;omega
            have hst:=iT (P:=P) (ρ b).bB tt fr (aa ρ new) ((ρ b).off+(o'+cap*es)) 0 c' w hcell (by
              intro y hy;rw[cq] at hy;obtain⟨x',hx',rfl⟩:=List.mem_map.1 hy;exact vF (pZ hfl x' hx')) (by rw[aK];omega) Tu
            have fI:∀y,D y→kW ρ h.next ⟨(ρ b).bB,(ρ b).off+o',(ρ b).extra-m⟩ y=ρ y:=fun y hy=>jD _ _ (by have:=i.lt y hy;omega);have yJ:=GJ i (w':=setRow w (ρ b).bB (.cells (Heap.splice c'.toList ((ρ b).off+(o'+cap*es)+0) (aa ρ new)).toArray tt fr)) (old++new) es ⟨(ρ b).bB,(ρ b).off+o',(ρ b).extra-m⟩ rfl e1.2 Ws (setRow_size _ _ _) (fun r hr=>by rw[cY,if_neg hr]) rfl rfl rfl (by
             refine⟨_,tt,fr,by rw[cY,if_pos rfl,if_pos hlt],?_,fun _=>⟨Xa,?_,?_⟩⟩
             ·intro j y hj;have CM:=(aL D _).1 hcd y (List.mem_of_getElem? hj);rw[bU fI y CM];refine⟨?_,cz (fun _=>.inl) y CM⟩;rw[List.getElem?_toArray,Heap.ei _ _ _ _ (by simp[aK];omega),aK];by_cases VZ:j<old.length
              ·rw[List.getElem?_append_left VZ] at hj;rw[if_neg (by simp only;omega)];have Qs:=(gr CH).2 j y hj;have Wr:vs[o'+j]?=some y:=by
                simpa[Heap.c8,Heap.row,BE] using Qs
               have:=(r6 _ _ Wr).1;simpa[Nat.add_assoc] using this
              ·rw[List.getElem?_append_right (by omega)] at hj;have hjl:j-old.length<new.length:=(List.getElem?_eq_some_iff.1 hj).1;rw[if_pos (by simp only;omega),dM];simp only;rw[show(ρ b).off+o'+j-((ρ b).off+(o'+cap*es)+0)=j-old.length by omega,hj];rfl
             ·simp only[List.size_toArray,Heap.dJ,Array.length_toList,List.length_append];omega
             ·simpa[Heap.dJ] using Tu)
            refine⟨_,_,.inl (fin (v:=.sl h.next 0 (cap+m) (cap+m) true) ?_),yJ.1,yJ.2,by simp only[AV.aP,grow];exact .inr ⟨Nat.le_refl _,by simp⟩⟩;have Iv:=ni (P:=P) (ty:=o.type) (base:=some ⟨(ρ b).bB,(ρ b).off+o',none⟩) (k:=cap) (cap:=cap+(ρ b).extra) hu hd hsrc hsz hlen hnew hroom (fun ad hh=>by
             simp only[Option.some.injEq] at hh;subst hh;rw[ey];exact hst) (fun hh=>by simp at hh)
            simp only[real,cond_true,bE,Iv,Nat.add_zero]
            congr 2
            omega
           ·have xK:=LG i e1.2;obtain⟨nc,hnc,hrun⟩:=Nk (cap+(ρ b).extra) hroom (by simp[real]);have F7:=p6 xK.1 (w:=w) e es (nc-(cap+m)) (Builtin.zeroCells (real ρ z).cells (nc-(cap+m))) hcd (by rw[je,dr];simp[aK,hzl]);have mH:=Ext.trans i.lt xK.2 (by rw[show(h.del b).next=h.next from rfl,aY];exact F7.2);refine⟨_,_,.inl (fin ?_),F7.1,mH,?_⟩
            ·rw[hrun];simp only[real,bE,cond_true,Nat.zero_add,Nat.add_zero,Heap.Jq]
             congr 2
             omega
            ·simp only[AV.aP,grow];exact .inr ⟨Nat.le_refl _,by simp⟩
       |_=>simp[BE] at hv
   |_=>rw[hr'] at hv;simp at hv
theorem CT{L:Loc}{vs:List AV}{es:Nat}(hx:dU P H0 ρ D L (.cells vs true es) w):dU P H0 ρ D L (.cells vs false es) w:=by
 obtain⟨c,t,fr,h1,h2,_⟩:=hx;exact⟨c,t,fr,h1,h2,fun hf=>by simp at hf⟩
theorem zw{o:Oper}{c:Call}{s x:Operand}{t u:TypeId}{ts:List TypeId}{e:TypeId}{d:TypeDesc}{size bytes:Nat}{z:AV}{rs:List bA}{v:AV}
  (he:bz ρ D n env a)(i:Inv P H0 ρ D h w)(ho:o.op=.call c)(hcb:c.callee=.builtin .append)(hargs:c.args.toList=[s,x])(ej:c.argTypes.toList=t::u::ts)
  (hu:P.underlying t=some (.slice e))(hd:P.underlying u=some d)(hsrc:oT d=true)(hsz:ep P e=some size)(hb:qU P e=some bytes)(hz:mB P e=some z)
  (hzl:z.cells.length=size)(hr:bT [s,x]=some rs)(hv:eK (.append size bytes) (rs.map env.ev) h=some (v,h')):
  vc P H0 ρ D h w (execOp a.eval o) v h':=by
 obtain⟨r,q,rfl,h1,h2⟩:=fA hr;have e1:=aD he h1;have e2:=aD he h2;rw[gC o c .append ho hcb,dN hargs (ys:=[real ρ (env.ev r),real ρ (env.ev q)]) (by simp[e1.1,e2.1])];simp only[List.map_cons,List.map_nil] at hv;have vL:∃ts',c.argTypes=(t::u::ts').toArray:=⟨ts,nt ej⟩;obtain⟨ts',vL⟩:=vL;have Oz:∀(x y:Value),Builtin.append_ (t::u::ts').toArray o.type #[x,y]=Builtin.append_ #[t,u] o.type #[x,y]:=by
  intro x y;simp[Builtin.append_]
 rw[vL];have yG:∀(l:Array Bool) (xs:List Value),builtin .append (t::u::ts').toArray o.type l xs.toArray=(do pure (.value (←Builtin.append_ (t::u::ts').toArray o.type xs.toArray))):=fun _ _=>rfl;rw[yG];rw[show([real ρ (env.ev r),real ρ (env.ev q)]:List Value).toArray=#[real ρ (env.ev r),real ρ (env.ev q)] from rfl,Oz];have fin:∀{ρ':cn} {w':World} {v:AV},(Builtin.append_ #[t,u] o.type #[real ρ (env.ev r),real ρ (env.ev q)]).run P w=.ok (real ρ' v) w'→
   (do pure (.value (←Builtin.append_ #[t,u] o.type #[real ρ (env.ev r),real ρ (env.ev q)])):Sem Next).run P w=.ok (.value (real ρ' v)) w':=by
  intro ρ' w' v hh;rw[Sem.run_bind,hh];rfl
 cases hr':env.ev r with
 |sl b o' len cap jl=>
  cases jl with
  |false=>rw[hr'] at hv;simp[eK] at hv
  |true=>
  rw[hr'] at hv e1;simp only[AV.aP] at e1;rw[hr'] at fin;simp only[eK] at hv;cases hsc:aM size h (env.ev q) with
  |none=>simp[hsc] at hv
  |some km=>
   obtain⟨m,new⟩:=km;simp only[hsc] at hv;have hs:=lS (P:=P) i e2.2 hsc;have hs':=lS (P:=P) (rT i) e2.2 hsc;obtain⟨hlen,CI,_,hnew⟩:=hs;have BI:=hs'.2.2.2;split at hv
   ·rename_i vs es old BE CH;cases hk:(bY new&&(!Nat.beq m 0&&Nat.ble ((len+m)*bytes) 140737488355328&&Nat.ble (len+m) 9223372036854775807)&&(Nat.beq vs.length (o'+len*size)&&Nat.beq cap len&&Nat.beq es size)) with
    |false=>simp[hk] at hv
    |true=>
     simp only[hk,cond_true,Option.some.injEq,Prod.mk.injEq] at hv;obtain⟨rfl,rfl⟩:=hv;simp only[Bool.and_eq_true] at hk;obtain⟨⟨hfl,⟨hm0,g1⟩,g2⟩,⟨hvl,iL⟩,L8⟩:=hk;have g1:=Nat.le_of_ble_eq_true g1;have g2:=Nat.le_of_ble_eq_true g2;have hvl:=Nat.eq_of_beq_eq_true hvl;have iL:=Nat.eq_of_beq_eq_true iL;have L8:=Nat.eq_of_beq_eq_true L8;subst iL L8;have RW:m≠0:=by rintro rfl;simp at hm0
     have hlo:=bQ (P:=P) i e1.2 CH;have OR:=bQ (P:=P) (rT i) e1.2 CH;have hcd:aW D (old++new):=by
      rw[aL];intro y hy;rcases List.mem_append.1 hy with hy|hy
      ·exact(aL D _).1 hlo.2 y hy
      ·exact(aL D _).1 CI y hy
     obtain⟨c',tt,fr,hcell,r6,jf⟩:=i.bB b _ e1.2 BE;obtain⟨Xa,hb4,Tu⟩:=jf rfl;have II:old.length=cap*es:=(gr CH).1;have hlt:=(Array.getElem?_eq_some_iff.1 hcell).1;have hml:new.length=m*es:=nV hsc;by_cases hroom:cap+m≤cap+(ρ b).extra
     ·
      have sS:m*es≤(ρ b).extra*es:=Nat.mul_le_mul_right _ (by omega);have hst:=iT (P:=P) (ρ b).bB tt fr (aa ρ new) ((ρ b).off+(o'+cap*es)) 0 c' w hcell (by
        intro y hy;rw[cq] at hy;obtain⟨x',hx',rfl⟩:=List.mem_map.1 hy;exact vF (pZ hfl x' hx')) (by rw[aK];omega) Tu
      have fI:∀y,D y→kW ρ h.next ⟨(ρ b).bB,(ρ b).off+o',(ρ b).extra-m⟩ y=ρ y:=fun y hy=>jD _ _ (by have:=i.lt y hy;omega);have yJ:=wX i (w':=setRow w (ρ b).bB (.cells (Heap.splice c'.toList ((ρ b).off+(o'+cap*es)+0) (aa ρ new)).toArray tt fr)) BE (old++new) es ⟨(ρ b).bB,(ρ b).off+o',(ρ b).extra-m⟩ (.inl rfl) e1.2
       (Nat.le_of_eq (setRow_size _ _ _).symm) (fun r _ hr=>by rw[cY,if_neg hr]) rfl rfl rfl
       (by
        refine⟨_,tt,fr,by rw[cY,if_pos rfl,if_pos hlt],?_,fun hf=>by simp at hf⟩;intro j y hj;have hjl:j<vs.length:=(List.getElem?_eq_some_iff.1 hj).1;have hy:=r6 j y hj;rw[bU fI y hy.2];refine⟨?_,cz (fun _=>.inl) y hy.2⟩;rw[List.getElem?_toArray,Heap.ei _ _ _ _ (by simp[aK];omega),if_neg (by omega)];simpa using hy.1)
       (by
        refine⟨_,tt,fr,by rw[cY,if_pos rfl,if_pos hlt],?_,fun hf=>by simp at hf⟩;intro j y hj;have CM:=(aL D _).1 hcd y (List.mem_of_getElem? hj);rw[bU fI y CM];refine⟨?_,cz (fun _=>.inl) y CM⟩;rw[List.getElem?_toArray,Heap.ei _ _ _ _ (by simp[aK];omega),aK];by_cases VZ:j<old.length
        ·rw[List.getElem?_append_left VZ] at hj;rw[if_neg (by simp only;omega)];have Qs:=(gr CH).2 j y hj;have Wr:vs[o'+j]?=some y:=by
          simpa[Heap.c8,Heap.row,BE] using Qs
         have:=(r6 _ _ Wr).1;simpa[Nat.add_assoc] using this
        ·rw[List.getElem?_append_right (by omega)] at hj;have hjl:j-old.length<new.length:=(List.getElem?_eq_some_iff.1 hj).1;rw[if_pos (by simp only;omega),dM];simp only;rw[show(ρ b).off+o'+j-((ρ b).off+(o'+cap*es)+0)=j-old.length by omega,hj];rfl)
      refine⟨_,_,.inl (fin (v:=.sl h.next 0 (cap+m) (cap+m) true) ?_),yJ.1,yJ.2,by simp only[AV.aP,grow];exact .inr ⟨Nat.le_refl _,by simp⟩⟩;have Iv:=ni (P:=P) (ty:=o.type) (base:=some ⟨(ρ b).bB,(ρ b).off+o',none⟩) (k:=cap) (cap:=cap+(ρ b).extra) hu hd hsrc hsz hlen hnew hroom (fun ad hh=>by
       simp only[Option.some.injEq] at hh;subst hh;rw[ey];exact hst) (fun hh=>by simp at hh)
      simp only[real,cond_true,bE,Iv,Nat.add_zero]
      congr 2
      omega
     ·obtain⟨nc,hnc,hrun⟩:=sF (P:=P) (w:=w) (ρ:=ρ) (ty:=o.type) (k:=cap) (cap:=cap+(ρ b).extra) (base:=some ⟨(ρ b).bB,(ρ b).off+o',none⟩) (old:=(aa ρ old).toArray) hu hd hsrc hsz hb hz hlen
       (by simp only[Builtin.firstCells];exact OR.1) BI hroom g1 g2
      rw[jV] at hrun;have fI:∀y,D y→kW ρ h.next ⟨w.heap.size,0,nc-(cap+m)⟩ y=ρ y:=fun y hy=>jD _ _ (by have:=i.lt y hy;omega);have R1:=jr w.drew (.cells ((aa ρ (old++new)).toArray++Builtin.zeroCells (real ρ z).cells (nc-(cap+m))) e);have NB:∀r,r<w.heap.size→(w.drew.alloc (.cells ((aa ρ (old++new)).toArray++Builtin.zeroCells (real ρ z).cells (nc-(cap+m))) e)).heap[r]?=w.heap[r]?:=by
       intro r hr;rw[show(w.drew.alloc (.cells ((aa ρ (old++new)).toArray++Builtin.zeroCells (real ρ z).cells (nc-(cap+m))) e)).heap=w.heap.push (.cells ((aa ρ (old++new)).toArray++Builtin.zeroCells (real ρ z).cells (nc-(cap+m))) e) from rfl,Array.getElem?_push,if_neg (by omega)]
      have yJ:=wX i (w':=w.drew.alloc (.cells ((aa ρ (old++new)).toArray++Builtin.zeroCells (real ρ z).cells (nc-(cap+m))) e)) BE (old++new) es ⟨w.heap.size,0,nc-(cap+m)⟩ (.inr (Nat.le_refl _)) e1.2
       (by rw[show(w.drew.alloc (.cells ((aa ρ (old++new)).toArray++Builtin.zeroCells (real ρ z).cells (nc-(cap+m))) e)).heap=w.heap.push (.cells ((aa ρ (old++new)).toArray++Builtin.zeroCells (real ρ z).cells (nc-(cap+m))) e) from rfl,Array.size_push];omega) (fun r hr _=>NB r hr) rfl rfl rfl
       (bG (CT (i.bB b _ e1.2 BE)) (fun _=>.inl) fI (NB _ hlt))
       (by
        refine⟨_,e,(0,0),R1,?_,fun hf=>by simp at hf⟩;intro j y hj;have hjl:j<(old++new).length:=(List.getElem?_eq_some_iff.1 hj).1;have CM:=(aL D _).1 hcd y (List.mem_of_getElem? hj);refine⟨?_,cz (fun _=>.inl) y CM⟩;rw[bU fI y CM];simp only[Nat.zero_add];rw[Array.getElem?_append_left (by simp[aK];simpa using hjl),List.getElem?_toArray,dM,hj];rfl)
      refine⟨_,_,.inl (fin (v:=.sl h.next 0 (cap+m) (cap+m) true) ?_),yJ.1,yJ.2,by simp only[AV.aP,grow];exact .inr ⟨Nat.le_refl _,by simp⟩⟩;rw[show real ρ (.sl b o' cap cap true)=.slice (some ⟨(ρ b).bB,(ρ b).off+o',none⟩) cap (cap+(ρ b).extra) by simp[real],hrun];simp only[real,bE,cond_true,Nat.zero_add,Nat.add_zero]
      congr 2
      omega
   ·simp at hv
 |_=>rw[hr'] at hv;simp[eK] at hv
theorem FL{o:Oper}{c:Call}{s x:Operand}{t:TypeId}{ts:List TypeId}{e:TypeId}{size:Nat}{rs:List bA}{v:AV}{op:yb}
  (he:bz ρ D n env a)(i:Inv P H0 ρ D h w)(ho:o.op=.call c)(hcb:c.callee=.builtin .copy)(hargs:c.args.toList=[s,x])(ej:c.argTypes.toList=t::ts)
  (hu:P.underlying t=some (.slice e))(hsz:ep P e=some size)(hc:one (.e (.copy size)) [s,x]=some (.e op,rs))(hv:eI op (rs.map env.ev) h=some (v,h')):
  vc P H0 ρ D h w (execOp a.eval o) v h':=by
 obtain⟨hq,hr⟩:=aN hc;simp only[fh.e.injEq] at hq;subst hq;obtain⟨r,q,rfl,h1,h2⟩:=fA hr;have e1:=aD he h1;have e2:=aD he h2;rw[gC o c .copy ho hcb,dN hargs (ys:=[real ρ (env.ev r),real ρ (env.ev q)]) (by simp[e1.1,e2.1])];simp only[List.map_cons,List.map_nil,eI] at hv;have yG:∀(l:Array Bool) (xs:List Value),builtin .copy c.argTypes o.type l xs.toArray=(do pure (.value (←Builtin.copy_ c.argTypes o.type xs.toArray))):=fun _ _=>rfl;rw[yG,nt ej];have Pa:(sizeOf e).run P w=.ok size w:=run_sizeOf hsz;cases hr':env.ev r with
 |aq=>
  rw[hr'] at hv;cases hsc:aM size h (env.ev q) with
  |none=>simp[hsc] at hv
  |some km=>
   obtain⟨m,new⟩:=km;simp only[hsc,Option.some.injEq,Prod.mk.injEq] at hv;obtain⟨rfl,rfl⟩:=hv;obtain⟨hlen,CI,uq,hnew⟩:=lS (P:=P) i e2.2 hsc;have h0:(Builtin.firstCells size 0 (real ρ (env.ev q))).run P w=.ok #[] w:=by
    cases hq:env.ev q with
    |str s'=>simp[real,Builtin.firstCells]
    |sl b o l c op=>
     have:=uq (fun s e=>by rw[hq] at e;simp at e) 0 (Nat.zero_le _);rw[hq] at this;simpa[aa] using this
    |aq=>simp[real,Builtin.firstCells]
    |fe wa=>simp[real,Builtin.firstCells,loadCells,loadCellsFrom]
    |rest b o j=>simp[real,Builtin.firstCells,loadCells,loadCellsFrom]
    |_=>rw[hq] at hsc;simp[aM] at hsc
   refine⟨ρ,w,.inl ?_,by rw[aY];exact i,Ext.refl _ _ _ _,by simp[AV.aP]⟩;simp[Builtin.copy_,run_underlying hu,hlen,Pa,real,Result.andThen,h0,goInt]
 |fe wa=>
  rw[hr'] at hv;cases hsc:aM size h (env.ev q) with
  |none=>simp[hsc] at hv
  |some km=>
   obtain⟨m,new⟩:=km;simp only[hsc,Option.some.injEq,Prod.mk.injEq] at hv;obtain⟨rfl,rfl⟩:=hv;obtain⟨hlen,CI,uq,hnew⟩:=lS (P:=P) i e2.2 hsc;have h0:(Builtin.firstCells size 0 (real ρ (env.ev q))).run P w=.ok #[] w:=by
    cases hq:env.ev q with
    |str s'=>simp[real,Builtin.firstCells]
    |sl b o l c op=>
     have:=uq (fun s e=>by rw[hq] at e;simp at e) 0 (Nat.zero_le _);rw[hq] at this;simpa[aa] using this
    |aq=>simp[real,Builtin.firstCells]
    |fe wa=>simp[real,Builtin.firstCells,loadCells,loadCellsFrom]
    |rest b o j=>simp[real,Builtin.firstCells,loadCells,loadCellsFrom]
    |_=>rw[hq] at hsc;simp[aM] at hsc
   refine⟨ρ,w,.inl ?_,by rw[aY];exact i,Ext.refl _ _ _ _,by simp[AV.aP]⟩;simp[Builtin.copy_,run_underlying hu,hlen,Pa,real,Result.andThen,h0,goInt,storeCells]
 |sl b o' len cap jl=>
  rw[hr'] at hv e1;simp only[AV.aP] at e1;cases hsc:aM size h (env.ev q) with
  |none=>simp[hsc] at hv
  |some km=>
   obtain⟨m,new⟩:=km;simp only[hsc,Option.map_eq_some_iff,Prod.mk.injEq] at hv;obtain⟨h2,hst,rfl,rfl⟩:=hv;obtain⟨hlen,CI,uq,hnew⟩:=lS (P:=P) i e2.2 hsc;have htd:aW D (new.take (min m len*size)):=by
    rw[aL] at CI⊢;exact fun y hy=>CI y (List.mem_of_mem_take hy)
   have Xe:(Builtin.firstCells size (min m len) (real ρ (env.ev q))).run P w=.ok (aa ρ (new.take (min m len*size))).toArray w:=by
    cases hq:env.ev q with
    |str s'=>
     rw[hq] at hsc;simp only[aM] at hsc;cases h1:Nat.beq size 1 with
     |false=>simp[h1] at hsc
     |true=>
      simp only[h1,cond_true,Option.some.injEq,Prod.mk.injEq] at hsc;obtain⟨rfl,rfl⟩:=hsc;have AF:=Nat.eq_of_beq_eq_true h1;subst AF;simp only[Builtin.firstCells,real,Sem.run_pure]
      congr 1
      have:(⟨s'.toArray⟩:ByteArray).extract 0 (min s'.length len)=⟨(s'.take (min s'.length len)).toArray⟩:=by
       apply ByteArray.ext;rw[ByteArray.data_extract];apply Array.ext';simp[List.extract_eq_take_drop]
      rw[this];apply Array.ext';simp[cq,real,Function.comp_def,List.map_take]
    |sl b2 o2 l2 c2 Xz=>
     have:=uq (fun s e=>by rw[hq] at e;simp at e) (min m len) (Nat.min_le_left _ _);rw[hq] at this;exact this
    |aq=>
     have:=uq (fun s e=>by rw[hq] at e;simp at e) (min m len) (Nat.min_le_left _ _);rw[hq] at this;exact this
    |fe wa=>
     have:=uq (fun s e=>by rw[hq] at e;simp at e) (min m len) (Nat.min_le_left _ _);rw[hq] at this;exact this
    |rest rb ro rk=>
     have:=uq (fun s e=>by rw[hq] at e;simp at e) (min m len) (Nat.min_le_left _ _);rw[hq] at this;exact this
    |_=>rw[hq] at hsc;simp[aM] at hsc
   obtain⟨di,w',hrun,hinv,mH⟩:=nW (P:=P) i e1.2 htd hst;refine⟨ρ,w',.inl ?_,by rw[di,aY];exact hinv,mH,by simp[AV.aP]⟩;simp only[real] at hlen Xe⊢;simp[Builtin.copy_,run_underlying hu,hlen,Pa,Result.andThen,Xe,hrun,goInt];show((min m len:Nat):Int)=min (m:Int) len;omega
 |_=>
  rw[hr'] at hv;cases hsc:aM size h (env.ev q) with
  |none=>simp[hsc] at hv
  |some km=>simp[hsc] at hv
theorem wD{k v:AV}{p:AV×AV}:∀{es:List (AV×AV)},p∈putKey k v es→p=(k,v)∨p∈es
 |[],h=>by simp[putKey] at h;exact .inl h
 |(x,u)::es,h=>by
  simp only[putKey] at h;split at h
  ·rcases List.mem_cons.1 h with h|h
   ·exact .inl h
   ·exact .inr (List.mem_cons_of_mem _ h)
  ·rcases List.mem_cons.1 h with h|h
   ·exact .inr (h▸List.mem_cons_self)
   ·rcases wD h with h|h
    ·exact .inl h
    ·exact .inr (List.mem_cons_of_mem _ h)
theorem E3(i:Inv P H0 ρ D h w){t kt e:TypeId}{kk:IntKind}(hu:P.underlying t=some (.map kt e))(hk:P.underlying kt=some (.int kk)){b:Nat}{k v:AV}(hb:D b)(V2:k.aP D)(KA:v.aP D){es:List (AV×AV)}{bs:List Nat}{c:Nat}{r:Option AV}(hg:h.get b=some (.map es bs c))(hf:findKey k es=some r):
  ∃w',(Instr.mapUpdate t (.map (some (ρ b).bB)) (real ρ k) (real ρ v)).run P w=.ok () w'∧Inv P H0 ρ D (h.set b (.map (putKey k v es) (od r bs c) (vu r c))) w'∧Ext ρ D h w ρ (h.set b (.map (putKey k v es) (od r bs c) (vu r c))) w':=by
 obtain⟨ms,clock,hcell,oQ,sS,vN,CG,rL⟩:=i.bB b _ hb hg;have bW:(getObj (ρ b).bB).run P w=.ok (.map ms clock) w:=by simp[getObj,Sem.run,hcell]
 have ie:∀o',(setObj (ρ b).bB o').run P w=.ok () {w with heap:=w.heap.setIfInBounds (ρ b).bB o'}:=by intro o';simp[setObj,Sem.run,hcell]
 have hlt:=(Array.getElem?_eq_some_iff.1 hcell).1;have gT:h.wr b=true:=by simp[Heap.wr,hg]
 have kH:∀ms' clock',ms'.toList.map (fun m=>(m.key,m.val))=(putKey k v es).map (fun p=>(real ρ p.1,real ρ p.2))→clock'=vu r c→ms'.toList.map (fun m=>m.born)=od r bs c→
   Inv P H0 ρ D (h.set b (.map (putKey k v es) (od r bs c) (vu r c))) {w with heap:=w.heap.setIfInBounds (ρ b).bB (.map ms' clock')}∧Ext ρ D h w ρ (h.set b (.map (putKey k v es) (od r bs c) (vu r c))) {w with heap:=w.heap.setIfInBounds (ρ b).bB (.map ms' clock')}:=by
  intro ms' clock' OU ju hb';refine pJ i hb gT rfl (by simp) (fun r hr=>by simp[Array.getElem?_setIfInBounds,Ne.symm hr]) rfl rfl rfl ?_;refine⟨ms',clock',by simp[Array.getElem?_setIfInBounds,hlt],oQ,OU,?_,ju,hb'⟩;intro p hp;rcases wD hp with rfl|hp
  ·exact⟨V2,KA⟩
  ·exact vN p hp
 have hn:=kE (ρ:=ρ) (kk:=kk) (v:=v) es ms.toList 0 sS hf;cases r with
 |none=>
  obtain⟨f1,f2⟩:=hn;refine⟨_,?_,kH (ms.push {key:=real ρ k,val:=real ρ v,born:=clock}) (clock+1) ?_ (by rw[CG];rfl) (by simp[rL,CG,od])⟩
  ·simp only[Instr.mapUpdate,Sem.run_bind,run_underlying hu,Result.andThen,bW,rD hk,run_findKey hk f1,ie]
  ·rw[f2];simp[sS]
 |some u=>
  obtain⟨j,f1,f2,-,⟨kd,kn,hkn⟩,f3⟩:=hn;have hj:((ms[j]?).map (·.key)).getD (real ρ k)=real ρ k:=by
   rw[Array.getElem?_toList] at f2;rw[f2];rfl
  refine⟨_,?_,kH (ms.modify j fun e=>{e with key:=real ρ k,val:=real ρ v}) clock ?_ (by rw[CG];rfl) ?_⟩
  ·have hst:(Instr.keyThatStays (real ρ k) (real ρ k)).run P w=.ok (real ρ k) w:=by
    subst hkn;simp[Instr.keyThatStays,real,Instr.sameBits]
   simp only[Instr.mapUpdate,Sem.run_bind,run_underlying hu,Result.andThen,bW,rD hk,run_findKey hk f1,Nat.zero_add,hj,hst,ie]
  ·rw[←f3];simp
  ·show _=bs;rw[←rL];apply List.ext_getElem?;intro n;simp only[Array.toList_modify,List.getElem?_map,List.getElem?_modify];split<;>cases(ms.toList)[n]?<;>rfl
theorem Bc{kk:IntKind}{k:AV}:∀(es:List (AV×AV)) (bs:List Nat) (ms:List MapEntry) (i:Nat) {r:Option AV},ms.map (fun m=>(m.key,m.val))=es.map (fun p=>(real ρ p.1,real ρ p.2))→ms.map (fun m=>m.born)=bs→findKey k es=some r→
  match r with
  |none=>Instr.findNow (.int kk) (real ρ k) ms i=some none∧delKey k es=es∧mb k es bs=bs
  |some _=>∃j u',Instr.findNow (.int kk) (real ρ k) ms i=some (some (i+j,u'))∧j<ms.length∧(ms.eraseIdx j).map (fun m=>(m.key,m.val))=(delKey k es).map (fun p=>(real ρ p.1,real ρ p.2))∧(ms.eraseIdx j).map (fun m=>m.born)=mb k es bs
 |[],bs,ms,i,r,hm,hb,hf=>by
  simp only[findKey,Option.some.injEq] at hf;subst hf;have:ms=[]:=by simpa using hm
  subst this;exact⟨rfl,rfl,by simp at hb;subst hb;rfl⟩
 |(x,u)::es,bs,ms,i,r,hm,hb,hf=>by
  cases ms with
  |nil=>simp at hm
  |cons m ms=>
   cases bs with
   |nil=>simp at hb
   |cons b bs=>
   simp only[List.map_cons,List.cons.injEq,Prod.mk.injEq] at hm hb;obtain⟨⟨h1,h2⟩,h3⟩:=hm;simp only[findKey] at hf;split at hf
   ·rename_i he;simp only[Option.some.injEq] at hf;subst hf;have hs:=sH (ρ:=ρ) (kk:=kk) he;refine⟨0,m.val,by simp only[Instr.findNow,h1,hs,Nat.add_zero],by simp,?_,?_⟩
    ·simp only[delKey,he,List.eraseIdx_cons_zero,h3]
    ·simp only[mb,he,List.eraseIdx_cons_zero,hb.2]
   ·rename_i he;have hs:=sH (ρ:=ρ) (kk:=kk) he;have ih:=Bc (kk:=kk) es bs ms (i+1) h3 hb.2 hf;cases r with
    |none=>
     simp only at ih⊢;exact⟨by simp only[Instr.findNow,h1,hs];exact ih.1,by simp only[delKey,he,ih.2.1],by simp only[mb,he,ih.2.2]⟩
    |some u'=>
     simp only at ih⊢;obtain⟨j,v',i1,i2,i3,i4⟩:=ih;refine⟨j+1,v',?_,by simpa using i2,?_,?_⟩
     ·simp only[Instr.findNow,h1,hs];rw[i1]
      congr 3
      omega
     ·simp only[delKey,he,List.eraseIdx_cons_succ,List.map_cons,i3,h1,h2]
     ·simp only[mb,he,List.eraseIdx_cons_succ,List.map_cons,i4,hb.1]
   ·simp at hf
theorem vz{k:AV}{p:AV×AV}:∀{es:List (AV×AV)},p∈delKey k es→p∈es
 |[],h=>by simp[delKey] at h
 |(x,u)::es,h=>by
  simp only[delKey] at h;split at h
  ·exact List.mem_cons_of_mem _ h
  ·rcases List.mem_cons.1 h with h|h
   ·exact h▸List.mem_cons_self
   ·exact List.mem_cons_of_mem _ (vz h)
theorem Jg(i:Inv P H0 ρ D h w){t kt e:TypeId}{ty:TypeId}{ts:List TypeId}{kk:IntKind}(hu:P.underlying t=some (.map kt e))(hk:P.underlying kt=some (.int kk)){b:Nat}{k:AV}(hb:D b){es:List (AV×AV)}{bs:List Nat}{c:Nat}{r:Option AV}(hg:h.get b=some (.map es bs c))(hf:findKey k es=some r):
  ∃w',(Builtin.delete_ (t::ts).toArray ty #[.map (some (ρ b).bB),real ρ k]).run P w=.ok (.tuple #[]) w'∧Inv P H0 ρ D (h.set b (.map (delKey k es) (mb k es bs) c)) w'∧Ext ρ D h w ρ (h.set b (.map (delKey k es) (mb k es bs) c)) w':=by
 obtain⟨ms,clock,hcell,oQ,sS,vN,CG,rL⟩:=i.bB b _ hb hg;have bW:(getObj (ρ b).bB).run P w=.ok (.map ms clock) w:=by simp[getObj,Sem.run,hcell]
 have ie:∀o',(setObj (ρ b).bB o').run P w=.ok () {w with heap:=w.heap.setIfInBounds (ρ b).bB o'}:=by intro o';simp[setObj,Sem.run,hcell]
 have hlt:=(Array.getElem?_eq_some_iff.1 hcell).1;have gT:h.wr b=true:=by simp[Heap.wr,hg]
 have kH:∀ms':Array MapEntry,ms'.toList.map (fun m=>(m.key,m.val))=(delKey k es).map (fun p=>(real ρ p.1,real ρ p.2))→ms'.toList.map (fun m=>m.born)=mb k es bs→
   Inv P H0 ρ D (h.set b (.map (delKey k es) (mb k es bs) c)) {w with heap:=w.heap.setIfInBounds (ρ b).bB (.map ms' clock)}∧Ext ρ D h w ρ (h.set b (.map (delKey k es) (mb k es bs) c)) {w with heap:=w.heap.setIfInBounds (ρ b).bB (.map ms' clock)}:=by
  intro ms' OU hb';refine pJ i hb gT rfl (by simp) (fun r hr=>by simp[Array.getElem?_setIfInBounds,Ne.symm hr]) rfl rfl rfl ?_;exact⟨ms',clock,by simp[Array.getElem?_setIfInBounds,hlt],oQ,OU,fun p hp=>vN p (vz hp),CG,hb'⟩
 have hn:=Bc (ρ:=ρ) (kk:=kk) es bs ms.toList 0 sS rL hf;cases r with
 |none=>
  obtain⟨f1,f2,f3⟩:=hn;refine⟨_,?_,kH ms (by rw[f2];exact sS) (by rw[f3];exact rL)⟩;simp only[Builtin.delete_,List.getElem?_toArray,List.getElem?_cons_zero,List.getElem?_cons_succ,Sem.run_bind,run_underlying hu,Result.andThen,bW,rD hk,run_findKey hk f1,ie,Sem.run_pure]
 |some u=>
  obtain⟨j,u',f1,f2,f3,f4⟩:=hn;have he:(ms.eraseIdxIfInBounds j).toList=ms.toList.eraseIdx j:=by simp[Array.eraseIdxIfInBounds,show j<ms.size from f2]
  refine⟨_,?_,kH (ms.eraseIdxIfInBounds j) (by rw[he];exact f3) (by rw[he];exact f4)⟩;simp only[Builtin.delete_,List.getElem?_toArray,List.getElem?_cons_zero,List.getElem?_cons_succ,Sem.run_bind,run_underlying hu,Result.andThen,bW,rD hk,run_findKey hk f1,Nat.zero_add,ie,Sem.run_pure]
theorem FI(i:Inv P H0 ρ D h w){b o len:Nat}{zs:List AV}(hb:D b)(hz:aW D zs)(hs:h.cJ b o (bR zs len)=some h'):
  h'.next=h.next∧∃w',(storeCells ⟨(ρ b).bB,(ρ b).off+o,none⟩ (aa ρ (bR zs len))).run P w=.ok () w'∧Inv P H0 ρ D h' w'∧Ext ρ D h w ρ h' w':=by
 refine nW i hb ?_ hs;rw[aL];intro x hx;obtain⟨j,hj⟩:=List.mem_iff_getElem?.1 hx;have hl:j<len*zs.length:=by
  have:=(List.getElem?_eq_some_iff.1 hj).1
  rwa [eo] at this
 rw[lZ zs len j hl] at hj;exact(aL D zs).1 hz x (List.mem_of_getElem? hj)
theorem By(b:Nat):∀(l:List Nat),tG b l=true↔b∈l
 |[]=>by simp[tG]
 |c::l=>by
  simp only[tG];cases hc:Nat.beq c b with
  |true=>have:=Nat.eq_of_beq_eq_true hc;simp[this]
  |false=>
   have:c≠b:=fun e=>by rw[e,Nat.beq_refl] at hc;simp at hc
   simp only[cond_false,By b l,List.mem_cons];exact⟨.inr,fun h=>h.resolve_left fun e=>this e.symm⟩
theorem qJ{sn:Array Nat}{seen:List Nat}(hs:sn.toList=seen)(b:Nat):sn.contains b=tG b seen:=by
 rw[Bool.eq_iff_iff,By,←hs];simp
theorem yP{sn:Array Nat}{seen bs:List Nat}{ms:Array MapEntry}(hs:sn.toList=seen)(hb:ms.toList.map (fun m=>m.born)=bs):(leftOf ms sn).toList.map (fun m=>m.born)=oe seen bs:=by
 have hc:(fun e:MapEntry=>!sn.contains e.born)=fun e=>!tG e.born seen:=funext fun e=>by rw[qJ hs]
 unfold leftOf;rw[Array.toList_filter,←hb,hc];generalize ms.toList=l;induction l with
 |nil=>rfl
 |cons m l ih=>
  simp only[List.filter_cons,List.map_cons,oe];cases hh:tG m.born seen with
  |true=>simpa[hh] using ih
  |false=>simpa[hh] using ih
theorem vn{last:Nat}:∀{l:List MapEntry},AN last (l.map fun m=>m.born)=true→l.all (fun x=>decide (x.born≥last))=false
 |[],h=>by simp[AN] at h
 |m::l,h=>by
  simp only[List.map_cons,AN] at h;cases hb:Nat.ble (m.born+1) last with
  |true=>
   have:=Nat.le_of_ble_eq_true hb;have:¬last≤m.born:=by omega
   simp[this]
  |false=>
   rw[hb] at h;simp only[cond_false] at h;simp only[List.all_cons,vn h,Bool.and_false]
theorem uu{sn:Array Nat}{seen bs:List Nat}{last:Nat}{ms:Array MapEntry}(hs:sn.toList=seen)(hb:ms.toList.map (fun m=>m.born)=bs)(h:oU seen last bs=true):
  (!sn.isEmpty&&!ms.isEmpty&&ms.all fun x=>decide (x.born≥last))=false:=by
 unfold oU at h;simp only[Bool.or_eq_true] at h;rcases h with(h|h)|h
 ·have:sn.isEmpty=true:=by rw[←Array.isEmpty_toList,hs];exact h
  simp[this]
 ·have:ms.isEmpty=true:=by
   rw[←Array.isEmpty_toList];rw[List.isEmpty_iff] at h⊢;rw[h] at hb;simpa using hb
  simp[this]
 ·rw[←hb] at h;have:=vn h;rw[Array.all_toList] at this;rw[this];simp
theorem Gh(w:World)(ty:TypeId){r bm since c0:Nat}{seen:Array Nat}{es:Array MapEntry}{clock:Nat}
  (hr:w.heap[r]?=some (.mapIter (some bm) since seen c0))(hb:w.heap[bm]?=some (.map es clock))(ht:(!seen.isEmpty&&!es.isEmpty&&es.all fun x=>decide (x.born≥c0))=false)(hl:leftOf es seen=#[]):
  (Instr.next (.pointer (some ⟨r,0,none⟩)) false ty).run P w=.ok (.tuple #[.bool false]) w:=by
 unfold leftOf at hl;simp only[Instr.next,getObj,Sem.run_bind,Sem.run,hr,hb,Result.andThen,ht,Bool.false_eq_true,if_false,hl];simp[choose,Sem.run,Question.forced]
theorem Gi(w:World)(ty:TypeId){r bm since c0:Nat}{seen:Array Nat}{es:Array MapEntry}{clock:Nat}
  (hr:w.heap[r]?=some (.mapIter (some bm) since seen c0))(hb:w.heap[bm]?=some (.map es clock))(ht:(!seen.isEmpty&&!es.isEmpty&&es.all fun x=>decide (x.born≥c0))=false)
  (hmem:∀x∈(leftOf es seen).toList,x.born<since)(h0:(leftOf es seen).size≠0):
  ∃e∈(leftOf es seen).toList,∃w1:World,(w1=w∨w1=w.drew)∧(Instr.next (.pointer (some ⟨r,0,none⟩)) false ty).run P w=.ok (.tuple #[.bool true,e.key,e.val]) {w1 with heap:=w1.heap.setIfInBounds r (.mapIter (some bm) since (seen.push e.born) clock)}:=by
 simp only[Instr.next,getObj,Sem.run_bind,Sem.run,hr,hb,Result.andThen,ht,Bool.false_eq_true,if_false];unfold leftOf at hmem h0⊢;generalize Array.filter (fun e=>!seen.contains e.born) es=L at hmem h0⊢;have e1:L.filter (fun x=>decide (x.born<since))=L:=Array.filter_eq_self.2 (fun x hx=>by simpa using hmem x (by simpa using hx));have e2:L.filter (fun x=>decide (x.born≥since))=#[]:=by
  rw[Array.filter_eq_empty_iff];intro x hx;have:=hmem x (by simpa using hx);simp;omega
 simp only[e1,e2,Array.append_empty];have hne:L.isEmpty=false:=by simp[Array.isEmpty,h0]
 simp only[hne,Bool.false_eq_true,if_false,Array.empty_append,Array.size_map];have VB:∃(j:Nat) (w1:World),j<L.size∧(w1=w∨w1=w.drew)∧(choose (Question.mapNext L.size)).run P w=.ok j w1:=by
  by_cases hf:L.size≤1
  ·exact⟨0,w,by omega,Or.inl rfl,by simp[choose,Sem.run,Question.forced,hf]⟩
  ·exact⟨_,w.drew,Nat.mod_lt _ (by omega),Or.inr rfl,by
    simp only[choose,Sem.run,Question.forced,decide_eq_true_eq,hf,if_false,Question.cut];rfl⟩
 obtain⟨j,w1,hj,W9,hrun⟩:=VB;refine⟨L[j],by simp,w1,W9,?_⟩;have CJ:w1.heap[r]?=some (.mapIter (some bm) since seen c0):=by rcases W9 with rfl|rfl<;>exact hr
 have ie:∀o',(setObj r o').run P w1=.ok () {w1 with heap:=w1.heap.setIfInBounds r o'}:=by intro o';simp[setObj,Sem.run,CJ]
 simp only[hrun,Array.getElem?_map,Array.getElem?_eq_getElem hj,Option.map_some,Sem.run_bind,ie,Result.andThen];rfl
theorem yU{it m since:Nat}{seen:List Nat}{c:Nat}{e:MapEntry}:∀(es:List (AV×AV)) (bs:List Nat) (ms:List MapEntry),ms.map (fun m=>(m.key,m.val))=es.map (fun p=>(real ρ p.1,real ρ p.2))→ms.map (fun m=>m.born)=bs→
  (∀p∈es,p.1.aP D∧p.2.aP D)→e∈ms→tG e.born seen=false→
  ∃k u,(AV.cC [.bool true,k,u],h.set it (.iter m since (seen++[e.born]) c))∈sr h it m since seen c bs es∧real ρ k=e.key∧real ρ u=e.val∧k.aP D∧u.aP D
 |[],bs,ms,hm,hb,hd,he,hn=>by
  have:ms=[]:=by simpa using hm
  subst this;simp at he
 |(k,u)::es,[],ms,hm,hb,hd,he,hn=>by
  have:ms=[]:=by simpa using hb
  subst this;simp at he
 |(k,u)::es,b::bs,[],hm,hb,hd,he,hn=>by simp at he
 |(k,u)::es,b::bs,x::ms,hm,hb,hd,he,hn=>by
  simp only[List.map_cons,List.cons.injEq,Prod.mk.injEq] at hm hb;simp only[sr];rcases List.mem_cons.1 he with rfl|he
  ·rw[←hb.1,hn];simp only[cond_false];exact⟨k,u,List.mem_cons_self,hm.1.1.symm,hm.1.2.symm,(hd _ List.mem_cons_self).1,(hd _ List.mem_cons_self).2⟩
  ·obtain⟨k',u',g1,g2⟩:=yU (it:=it) (m:=m) (since:=since) (c:=c) es bs ms hm.2 hb.2 (fun p hp=>hd p (List.mem_cons_of_mem _ hp)) he hn;refine⟨k',u',?_,g2⟩;cases tG b seen with
   |true=>exact g1
   |false=>exact List.mem_cons_of_mem _ g1
theorem yd{n b:Nat}:∀{l:List Nat},AK n l=true→b∈l→b<n
 |[],_,hb=>by simp at hb
 |c::l,h,hb=>by
  simp only[AK] at h;cases hc:Nat.ble (c+1) n with
  |false=>rw[hc] at h;simp at h
  |true=>
   rw[hc] at h;rcases List.mem_cons.1 hb with rfl|hb
   ·exact Nat.le_of_ble_eq_true hc
   ·exact yd h hb
theorem B0{o:Oper}{rs:List bA}{cs:List (AV×Heap)}(he:bz ρ D n env a)(i:Inv P H0 ρ D h w)(hc:an P o.op=some (.e .next,rs))(hv:qM (rs.map env.ev) h=some cs):
  ∃p∈cs,vc P H0 ρ D h w (execOp a.eval o) p.1 p.2∧p.2.next=h.next:=by
 have key:∃it,o.op=.next it false∧one (.e .next) [it]=some (.e .next,rs):=by
  cases ho:o.op<;>rw[ho] at hc
  case next it s=>
   cases s with
   |true=>simp[an] at hc
   |false=>exact⟨it,rfl,by simpa only[an] using hc⟩
  case makeMap t r=>
   exfalso;cases r with
   |none=>simp only[an] at hc;obtain⟨hq,_⟩:=aN hc;simp at hq
   |some r=>simp[an] at hc
  case unOp u t x=>
   exfalso;cases u<;>simp only[an] at hc<;>first
    |(obtain⟨_,_,h2⟩:=aU hc;simp at h2;done)
    |(simp at hc;done)
  all_goals (exfalso;simp only[an] at hc)
  all_goals repeat' (first
   |(simp only[Option.bind_eq_some_iff] at hc;obtain⟨_,_,hc⟩:=hc)
   |(simp only[Option.map_eq_some_iff] at hc;obtain⟨_,_,hc⟩:=hc;simp at hc;done)
   |(obtain⟨_,_,h2⟩:=aU hc;simp at h2;done)
   |(obtain⟨hq,_⟩:=aN hc;simp at hq;done)
   |(simp at hc;done)
   |(split at hc))
 obtain⟨it,ho,hc⟩:=key;obtain⟨-,hr⟩:=aN hc;obtain⟨r,rfl,h1⟩:=eE hr;have e1:=aD he h1;simp only[List.map_cons,List.map_nil] at hv;have hx:∃it',env.ev r=.ptr it' 0:=by
  cases hx:env.ev r with
  |ptr it' oo=>cases oo with
   |zero=>exact⟨it',rfl⟩
   |succ oo=>rw[hx] at hv;simp[qM] at hv
  |_=>rw[hx] at hv;simp[qM] at hv
 obtain⟨it',hx⟩:=hx;rw[hx] at e1 hv;simp only[AV.aP] at e1;simp only[qM] at hv;split at hv
 ·rename_i m since seen last hg;split at hv
  ·rename_i es bs cl hm;cases hb:(oU seen last bs&&AK since (oe seen bs)&&!(oe seen bs).isEmpty) with
   |false=>simp[hb] at hv
   |true=>
    simp only[hb,cond_true,Option.some.injEq] at hv;subst hv;simp only[Bool.and_eq_true,Bool.not_eq_true'] at hb;obtain⟨oQ,Dv,Qt,sn,hcell,Md⟩:=i.bB it' _ e1.2 hg;obtain⟨ms,clock,vM,_,sS,vN,CG,rL⟩:=i.bB m _ Dv hm;have hleft:=yP (sn:=sn) (ms:=ms) Md rL;obtain⟨e,hel,w1,hw1,hrun⟩:=Gi (P:=P) w o.type hcell vM (uu Md rL hb.1.1)
     (fun x hx=>yd hb.1.2 (by rw[←hleft];exact List.mem_map_of_mem hx)) (fun h0=>by
      rw[←hleft] at hb;have:(leftOf ms sn).toList=[]:=List.eq_nil_of_length_eq_zero (by simpa using h0);rw[this] at hb;simp at hb)
    have hem:e∈ms.toList∧tG e.born seen=false:=by
     unfold leftOf at hel;rw[Array.toList_filter,List.mem_filter] at hel;refine⟨hel.1,?_⟩;rw[←qJ Md];simpa using hel.2
    obtain⟨k,u,g1,g2,g3,g4,g5⟩:=yU (h:=h) (it:=it') (m:=m) (since:=since) (c:=cl) es bs ms.toList sS rL vN hem.1 hem.2;refine⟨_,g1,?_,rfl⟩;have hlt:=(Array.getElem?_eq_some_iff.1 hcell).1;have RO:w1.heap=w.heap:=by rcases hw1 with rfl|rfl<;>rfl
    have ht1:w1.tape=w.tape:=by rcases hw1 with rfl|rfl<;>rfl
    have Wg:w1.os=w.os:=by rcases hw1 with rfl|rfl<;>rfl
    have Wh:w1.output=w.output:=by rcases hw1 with rfl|rfl<;>rfl
    have hst:=pJ (w':={w1 with heap:=w1.heap.setIfInBounds (ρ it').bB (.mapIter (some (ρ m).bB) since (sn.push e.born) clock)}) i e1.2 (x:=.iter m since (seen++[e.born]) cl) (by simp[Heap.wr,hg]) rfl
     (by simp[RO]) (fun r hr=>by simp[Array.getElem?_setIfInBounds,Ne.symm hr,RO]) ht1 Wg Wh ⟨oQ,Dv,Qt,sn.push e.born,by simp[Array.getElem?_setIfInBounds,RO,hlt,CG],by simp[Md]⟩
    refine⟨ρ,_,.inl ?_,by rw[show(h.set it' (.iter m since (seen++[e.born]) cl)).next=h.next from rfl,aY];exact hst.1,hst.2,by simp only[AV.aP,aW,and_true,true_and];exact⟨cz (fun _=>.inl) _ g4,cz (fun _=>.inl) _ g5⟩⟩;unfold execOp;rw[ho];simp only[e1.1,real,Nat.add_zero,Qt,Sem.run_bind];rw[hrun];simp[Result.andThen,aa,real,g2,g3]
  ·simp at hv
 ·simp at hv
theorem HH{o:Oper}{op:yb}{rs:List bA}{v:AV}(he:bz ρ D n env a)(i:Inv P H0 ρ D h w)(hc:an P o.op=some (.e op,rs))(hv:eI op (rs.map env.ev) h=some (v,h')):
  vc P H0 ρ D h w (execOp a.eval o) v h':=by
 cases ho:o.op<;>rw[ho] at hc
 case store t x y=>
  simp only[an,Option.bind_eq_some_iff] at hc;obtain⟨k,hk,hc⟩:=hc;obtain⟨hq,hr⟩:=aN hc;simp only[fh.e.injEq] at hq;subst hq;obtain⟨r,q,rfl,h1,h2⟩:=fA hr;have e1:=aD he h1;have e2:=aD he h2;simp only[List.map_cons,List.map_nil] at hv;cases hr':env.ev r with
  |ptr b o'=>
   rw[hr'] at hv e1;simp only[AV.aP] at e1;simp only[eI] at hv;cases hb:Nat.beq (env.ev q).cells.length k with
   |false=>simp[hb] at hv
   |true=>
    simp only[hb,cond_true,Option.map_eq_some_iff,Prod.mk.injEq] at hv;obtain⟨CF,hst,rfl,rfl⟩:=hv;have EX:=Nat.eq_of_beq_eq_true hb;obtain⟨di,w',hrun,hinv,mH⟩:=nW (P:=P) i e1.2 (iA e2.2) hst;refine⟨ρ,w',.inr ⟨?_,rfl⟩,by rw[di,aY];exact hinv,mH,by simp[AV.undef,AV.aP,aW]⟩;unfold execOp;rw[ho];simp only[e1.1,e2.1,real,Instr.storeAt,Instr.sureAddr,Sem.run_bind,Sem.run_pure,Result.andThen,storeVar,dr,run_sizeOf hk];rw[if_neg (by simp[aK,EX])];simp only[hrun,List.toList_toArray]
  |_=>rw[hr'] at hv;simp[eI] at hv
 case mapUpdate t m k x=>
  simp only[an] at hc;split at hc
  ·rename_i kt e hu;split at hc
   ·rename_i kk hk;obtain⟨hq,hr⟩:=aN hc;simp only[fh.e.injEq] at hq;subst hq;obtain⟨r1,r2,r3,rfl,h1,h2,h3⟩:=o9 hr;have e1:=aD he h1;have e2:=aD he h2;have e3:=aD he h3;simp only[List.map_cons,List.map_nil] at hv;cases hr':env.ev r1 with
    |map b=>
     rw[hr'] at hv e1;simp only[AV.aP] at e1;simp only[eI] at hv;split at hv
     ·rename_i es bs c hg;split at hv
      ·rename_i r hf;simp only[Option.some.injEq,Prod.mk.injEq] at hv;obtain⟨rfl,rfl⟩:=hv;obtain⟨w',hrun,hinv,mH⟩:=E3 i hu hk e1.2 e2.2 e3.2 hg hf;refine⟨ρ,w',.inr ⟨?_,rfl⟩,by rw[show(h.set b (.map (putKey (env.ev r2) (env.ev r3) es) (od r bs c) (vu r c))).next=h.next from rfl,aY];exact hinv,mH,by simp[AV.undef,AV.aP,aW]⟩;unfold execOp;rw[ho];simp only[e1.1,e2.1,e3.1,real,Sem.run_bind,hrun,Result.andThen,Sem.run_pure]
      ·simp at hv
     ·simp at hv
    |_=>rw[hr'] at hv;simp[eI] at hv
   ·exfalso;obtain⟨hq,_⟩:=aN hc;simp at hq
   ·exfalso;obtain⟨hq,_⟩:=aN hc;simp at hq
   ·simp at hc
  ·simp at hc
 case insert t m k x=>
  simp only[an] at hc;split at hc
  ·rename_i kt e hu;split at hc
   ·rename_i kk hk;obtain⟨hq,hr⟩:=aN hc;simp only[fh.e.injEq] at hq;subst hq;obtain⟨r1,r2,r3,rfl,h1,h2,h3⟩:=o9 hr;have e1:=aD he h1;have e2:=aD he h2;have e3:=aD he h3;simp only[List.map_cons,List.map_nil] at hv;cases hr':env.ev r1 with
    |map b=>
     rw[hr'] at hv e1;simp only[AV.aP] at e1;simp only[eI] at hv;split at hv
     ·rename_i es bs c hg;split at hv
      ·rename_i r hf;simp only[Option.some.injEq,Prod.mk.injEq] at hv;obtain⟨rfl,rfl⟩:=hv;obtain⟨w',hrun,hinv,mH⟩:=E3 i hu hk e1.2 e2.2 e3.2 hg hf;refine⟨ρ,w',.inr ⟨?_,rfl⟩,by rw[show(h.set b (.map (putKey (env.ev r2) (env.ev r3) es) (od r bs c) (vu r c))).next=h.next from rfl,aY];exact hinv,mH,by simp[AV.undef,AV.aP,aW]⟩;unfold execOp;rw[ho];simp only[e1.1,e2.1,e3.1,real,Sem.run_bind,hrun,Result.andThen,Sem.run_pure]
      ·simp at hv
     ·simp at hv
    |_=>rw[hr'] at hv;simp[eI] at hv
   ·exfalso;obtain⟨hq,_⟩:=aN hc;simp at hq
   ·exfalso;obtain⟨hq,_⟩:=aN hc;simp at hq
   ·simp at hc
  ·simp at hc
 case call c=>
  simp only[an] at hc;split at hc
  ·simp only[Option.map_eq_some_iff] at hc;obtain⟨_,_,hc⟩:=hc;simp at hc
  ·simp only[Option.map_eq_some_iff] at hc;obtain⟨_,_,hc⟩:=hc;simp at hc
  ·rename_i b hcb;split at hc
   ·exfalso;repeat' (first
     |(obtain⟨_,_,h2⟩:=aU hc;simp at h2;done)
     |(simp at hc;done)
     |(split at hc))
   ·exfalso;obtain⟨_,_,h2⟩:=aU hc;simp at h2
   ·exfalso;obtain⟨_,_,h2⟩:=aU hc;simp at h2
   ·rename_i s x t u ts hargs ej;split at hc
    ·rename_i e d hu hd;split at hc
     ·simp at hc
     ·rename_i hsrc;split at hc
      ·rename_i size bytes z hsz hb hz;split at hc
       ·simp at hc
       ·rename_i hzl;exact AP he i ho hcb hargs ej hu hd (by simpa using hsrc) hsz hb hz (by simpa using hzl) hc hv
      ·simp at hc
    ·simp at hc
   ·rename_i s x t ts hargs ej;split at hc
    ·rename_i e hu;simp only[Option.bind_eq_some_iff] at hc;obtain⟨size,hsz,hc⟩:=hc;exact FL he i ho hcb hargs ej hu hsz hc hv
    ·simp at hc
   ·rename_i x t hargs ej;split at hc
    ·rename_i e hu;simp only[Option.bind_eq_some_iff] at hc;obtain⟨z,hz,hc⟩:=hc;obtain⟨hq,hr⟩:=aN hc;simp only[fh.e.injEq] at hq;subst hq;obtain⟨r,rfl,h1⟩:=eE hr;have e1:=aD he h1;have xP:=cF (P:=P) (w:=w) hz ρ D;simp only[List.map_cons,List.map_nil] at hv;rw[gC o c .clear ho hcb,dN hargs (ys:=[real ρ (env.ev r)]) (by simp[e1.1])];have yG:∀(l:Array Bool) (xs:List Value),builtin .clear c.argTypes o.type l xs.toArray=(do pure (.value (←Builtin.clear_ c.argTypes o.type xs.toArray))):=fun _ _=>rfl;rw[yG,nt ej];cases hr':env.ev r with
     |aq=>
      rw[hr'] at hv;simp only[eI,Option.some.injEq,Prod.mk.injEq] at hv;obtain⟨rfl,rfl⟩:=hv;refine⟨ρ,w,.inl ?_,by rw[aY];exact i,Ext.refl _ _ _ _,by simp[AV.undef,AV.aP,aW]⟩;simp[Builtin.clear_,run_underlying hu,real,Result.andThen,AV.undef,aa]
     |sl b o' len cap op=>
      rw[hr'] at hv e1;simp only[AV.aP] at e1;simp only[eI,Option.map_eq_some_iff,Prod.mk.injEq] at hv;obtain⟨h2,hst,rfl,rfl⟩:=hv;obtain⟨di,w',hrun,hinv,mH⟩:=FI (P:=P) i e1.2 (iA xP.2) hst;refine⟨ρ,w',.inl ?_,by rw[di,aY];exact hinv,mH,by simp[AV.undef,AV.aP,aW]⟩;have Xv:(Builtin.zeroCells (real ρ z).cells len).toList=aa ρ (bR z.cells len):=by
       rw[Builtin.zeroCells,dr,pO ρ z.cells len _ (by simp[aK])]
      cases len with
      |zero=>
       have hw:w'=w:=by
        simp[bR,aa,storeCells] at hrun;exact hrun.symm
       subst hw;simp[Builtin.clear_,run_underlying hu,real,Result.andThen,AV.undef,aa]
      |succ len=>
       simp only[Builtin.clear_,real,List.getElem?_toArray,List.getElem?_cons_zero,Sem.run_bind,run_underlying hu,Result.andThen,xP.1,Xv,hrun,Sem.run_pure,AV.undef,aa]
     |_=>rw[hr'] at hv;simp[eI] at hv
    ·exfalso;obtain⟨hq,_⟩:=aN hc;simp at hq
    ·simp at hc
   ·rename_i m k t ts hargs ej;split at hc
    ·rename_i kt e hu;split at hc
     ·rename_i kk hk;obtain⟨hq,hr⟩:=aN hc;simp only[fh.e.injEq] at hq;subst hq;obtain⟨r1,r2,rfl,h1,h2⟩:=fA hr;have e1:=aD he h1;have e2:=aD he h2;simp only[List.map_cons,List.map_nil] at hv;rw[gC o c .delete ho hcb,dN hargs (ys:=[real ρ (env.ev r1),real ρ (env.ev r2)]) (by simp[e1.1,e2.1])];have yG:∀(l:Array Bool) (xs:List Value),builtin .delete c.argTypes o.type l xs.toArray=(do pure (.value (←Builtin.delete_ c.argTypes o.type xs.toArray))):=fun _ _=>rfl;rw[yG,nt ej];cases hr':env.ev r1 with
      |map b=>
       rw[hr'] at hv e1;simp only[AV.aP] at e1;simp only[eI] at hv;split at hv
       ·rename_i es bs cl hg;split at hv
        ·rename_i q hf;simp only[Option.some.injEq,Prod.mk.injEq] at hv;obtain⟨rfl,rfl⟩:=hv;obtain⟨w',hrun,hinv,mH⟩:=Jg (ty:=o.type) (ts:=ts) i hu hk e1.2 hg hf;refine⟨ρ,w',.inl ?_,by rw[show(h.set b (.map (delKey (env.ev r2) es) (mb (env.ev r2) es bs) cl)).next=h.next from rfl,aY];exact hinv,mH,by simp[AV.aP,aW]⟩;simp only[real,Sem.run_bind];rw[hrun];simp[Result.andThen,aa]
        ·simp at hv
       ·simp at hv
      |_=>rw[hr'] at hv;simp[eI] at hv
     ·simp at hc
    ·simp at hc
   ·simp at hc
 case range t x=>
  simp only[an] at hc;split at hc
  ·rename_i kt e hu;obtain⟨hq,hr⟩:=aN hc;simp only[fh.e.injEq] at hq;subst hq;obtain⟨r,rfl,h1⟩:=eE hr;have e1:=aD he h1;simp only[List.map_cons,List.map_nil] at hv;cases hr':env.ev r with
   |map b=>
    rw[hr'] at hv e1;simp only[AV.aP] at e1;simp only[eI] at hv;split at hv
    ·rename_i es bs cl hg;simp only[Option.some.injEq,Prod.mk.injEq] at hv;obtain⟨rfl,rfl⟩:=hv;obtain⟨ms,clock,hcell,oQ,sS,vN,CG,rL⟩:=i.bB b _ e1.2 hg;have hlt:=i.lt b e1.2;have hst:=pH (w':=w.alloc (.mapIter (some (ρ b).bB) clock #[] clock)) i (.iter b cl [] cl) 0 (.mapIter (some (ρ b).bB) clock #[] clock) rfl rfl rfl rfl
      ⟨i.low,.inl e1.2,rfl,#[],by rw[jD _ _ (by omega),←CG];exact jr _ _,rfl⟩
     refine⟨_,_,.inl ?_,hst.1,hst.2,by simp[AV.aP,grow]⟩;unfold execOp;rw[ho];simp only[e1.1,real,Instr.range,Sem.run_bind,run_underlying hu,Result.andThen,getObj,Sem.run,hcell,newObj,bE];rfl
    ·simp at hv
   |_=>rw[hr'] at hv;simp[eI] at hv
  ·simp at hc
 case next it s=>
  cases s with
  |true=>simp[an] at hc
  |false=>
   simp only[an] at hc;obtain⟨hq,hr⟩:=aN hc;simp only[fh.e.injEq] at hq;subst hq;obtain⟨r,rfl,h1⟩:=eE hr;have e1:=aD he h1;simp only[List.map_cons,List.map_nil] at hv;have hx:∃it',env.ev r=.ptr it' 0:=by
    cases hx:env.ev r with
    |ptr it' oo=>cases oo with
     |zero=>exact⟨it',rfl⟩
     |succ oo=>rw[hx] at hv;simp[eI] at hv
    |_=>rw[hx] at hv;simp[eI] at hv
   obtain⟨it',hx⟩:=hx;rw[hx] at e1 hv;simp only[AV.aP] at e1;simp only[eI] at hv;split at hv
   ·rename_i m since seen last hg;split at hv
    ·rename_i es bs cl hm;cases hb:(oU seen last bs&&(oe seen bs).isEmpty) with
     |false=>simp[hb] at hv
     |true=>
      simp only[hb,cond_true,Option.some.injEq,Prod.mk.injEq] at hv;obtain⟨rfl,rfl⟩:=hv;simp only[Bool.and_eq_true] at hb;obtain⟨_,Dv,Qt,sn,hcell,Md⟩:=i.bB it' _ e1.2 hg;obtain⟨ms,clock,vM,_,sS,vN,CG,rL⟩:=i.bB m _ Dv hm;have hst:=J9 i e1.2;refine⟨ρ,w,.inl ?_,by rw[show(h.del it').next=h.next from rfl,aY];exact hst.1,hst.2,by simp[AV.aP,aW]⟩;unfold execOp;rw[ho];have hl:leftOf ms sn=#[]:=by
       have:=yP (sn:=sn) Md rL;rw[List.isEmpty_iff.1 hb.2] at this;exact Array.eq_empty_of_size_eq_zero (by simpa using congrArg List.length this)
      have:=Gh (P:=P) w o.type hcell vM (uu Md rL hb.1) hl;simp only[e1.1,real,Nat.add_zero,Qt,Sem.run_bind];rw[this];simp[Result.andThen,aa,real]
    ·simp at hv
   ·simp at hv
 case unOp u t x=>
  exfalso;cases u<;>simp only[an] at hc<;>first
   |(obtain⟨_,_,h2⟩:=aU hc;simp at h2;done)
   |(simp at hc;done)
 case makeMap t r=>
  exfalso;cases r with
  |none=>simp only[an] at hc;obtain⟨hq,_⟩:=aN hc;simp at hq
  |some r=>simp[an] at hc
 all_goals (exfalso;simp only[an] at hc)
 all_goals repeat' (first
  |(simp only[Option.bind_eq_some_iff] at hc;obtain⟨_,_,hc⟩:=hc)
  |(simp only[Option.map_eq_some_iff] at hc;obtain⟨_,_,hc⟩:=hc;simp at hc;done)
  |(obtain⟨_,_,h2⟩:=aU hc;simp at h2;done)
  |(simp at hc;done)
  |(split at hc))
theorem HI{o:Oper}{op:yb}{rs:List bA}{v:AV}(he:bz ρ D n env a)(i:Inv P H0 ρ D h w)(hc:an P o.op=some (.e op,rs))(hv:eK op (rs.map env.ev) h=some (v,h')):
  vc P H0 ρ D h w (execOp a.eval o) v h':=by
 cases op with
 |append size bytes=>
  cases ho:o.op
  case call c=>
   rw[ho] at hc;simp only[an] at hc;split at hc
   ·simp only[Option.map_eq_some_iff] at hc;obtain⟨_,_,hc⟩:=hc;simp at hc
   ·simp only[Option.map_eq_some_iff] at hc;obtain⟨_,_,hc⟩:=hc;simp at hc
   ·rename_i b hcb;split at hc
    ·exfalso;repeat' (first
      |(obtain⟨_,_,h2⟩:=aU hc;simp at h2;done)
      |(simp at hc;done)
      |(split at hc))
    ·exfalso;obtain⟨_,_,h2⟩:=aU hc;simp at h2
    ·exfalso;obtain⟨_,_,h2⟩:=aU hc;simp at h2
    ·rename_i s x t u ts hargs ej;split at hc
     ·rename_i e d hu hd;split at hc
      ·simp at hc
      ·rename_i hsrc;split at hc
       ·rename_i size' bytes' z hsz hb hz;split at hc
        ·simp at hc
        ·rename_i hzl;obtain⟨hq,hr⟩:=aN hc;simp only[fh.e.injEq,yb.append.injEq] at hq;obtain⟨rfl,rfl⟩:=hq;exact zw he i ho hcb hargs ej hu hd (by simpa using hsrc) hsz hb hz (by simpa using hzl) hr hv
       ·simp at hc
     ·simp at hc
    ·exfalso;repeat' (first
      |(simp only[Option.bind_eq_some_iff] at hc;obtain⟨_,_,hc⟩:=hc)
      |(obtain⟨hq,_⟩:=aN hc;simp at hq;done)
      |(simp at hc;done)
      |(split at hc))
    ·exfalso;repeat' (first
      |(simp only[Option.bind_eq_some_iff] at hc;obtain⟨_,_,hc⟩:=hc)
      |(obtain⟨hq,_⟩:=aN hc;simp at hq;done)
      |(simp at hc;done)
      |(split at hc))
    ·exfalso;repeat' (first
      |(simp only[Option.bind_eq_some_iff] at hc;obtain⟨_,_,hc⟩:=hc)
      |(obtain⟨hq,_⟩:=aN hc;simp at hq;done)
      |(simp at hc;done)
      |(split at hc))
    ·simp at hc
  case unOp u t x=>
   exfalso;rw[ho] at hc;cases u<;>simp only[an] at hc<;>first
    |(obtain⟨_,_,h2⟩:=aU hc;simp at h2;done)
    |(simp at hc;done)
  case next it s=>
   exfalso;rw[ho] at hc;cases s with
   |true=>simp[an] at hc
   |false=>simp only[an] at hc;obtain⟨hq,_⟩:=aN hc;simp at hq
  case makeMap t r=>
   exfalso;rw[ho] at hc;cases r with
   |none=>simp only[an] at hc;obtain⟨hq,_⟩:=aN hc;simp at hq
   |some r=>simp[an] at hc
  all_goals (exfalso;rw[ho] at hc;simp only[an] at hc)
  all_goals repeat' (first
   |(simp only[Option.bind_eq_some_iff] at hc;obtain⟨_,_,hc⟩:=hc)
   |(simp only[Option.map_eq_some_iff] at hc;obtain⟨_,_,hc⟩:=hc;simp at hc;done)
   |(obtain⟨_,_,h2⟩:=aU hc;simp at h2;done)
   |(obtain⟨hq,_⟩:=aN hc;simp at hq;done)
   |(simp at hc;done)
   |(split at hc))
 |_=>simp[eK] at hv
end
end Ads
end Go.Proofs.Ytecdcefacdodgaa
