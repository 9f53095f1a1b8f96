/-
  The operations of Vs on the heap, done in Ads.
-/
import Derived.Test.YtepdklcpagielaaVsOp
set_option linter.unusedVariables false
set_option linter.unusedSimpArgs false
namespace Go.Proofs.Ytepdklcpagielaa
namespace Ads
def mz(s:Nat→Nat)(a b:Nat):Nat→Nat:=fun x=>if x=a then b else s x
theorem jZ{h:Heap}{b o k:Nat}{vs:List AV}{wr:Bool}{es:Nat}(hg:h.get b=some (.cells vs wr es))(hl:o+k≤vs.length):h.bn b o k=some ((vs.drop o).take k):=by
 simp only[Heap.bn,Heap.row,hg];rw[Nat.ble_eq_true_of_le hl];rfl
theorem I6{h:Heap}{b o k:Nat}{cs:List AV}(hl:h.bn b o k=some cs):∃vs wr es,h.get b=some (.cells vs wr es)∧o+k≤vs.length∧cs=(vs.drop o).take k:=by
 simp only[Heap.bn,Heap.row] at hl;split at hl
 ·rename_i xs hx;split at hx
  ·rename_i vs wr es hg;cases hx
   cases hb:Nat.ble (o+k) xs.length with
   |false=>simp[hb] at hl
   |true=>
    simp only[hb,cond_true,Option.some.injEq] at hl;exact⟨_,_,_,hg,Nat.le_of_ble_eq_true hb,hl.symm⟩
  ·simp at hx
 ·simp at hl
theorem uy{h:Heap}{b o:Nat}{vs:List AV}{wr:Bool}{es:Nat}(hg:h.get b=some (.cells vs wr es)):h.bC b o=vs[o]?:=by
 simp only[Heap.bC,Heap.row,hg]
theorem I5{h:Heap}{b o:Nat}{v:AV}(hl:h.bC b o=some v):∃vs wr es,h.get b=some (.cells vs wr es)∧vs[o]?=some v:=by
 simp only[Heap.bC,Heap.row] at hl;split at hl
 ·rename_i xs hx;split at hx
  ·rename_i vs wr es hg;cases hx
   exact⟨_,_,_,hg,hl⟩
  ·simp at hx
 ·simp at hl
theorem l6{z:Nat}:∀{l:List AV},aW z l=true→(ai l).length=l.length*z∧∀(p:Nat) (c:AV),(ai l)[p]?=some c→∃i x j,l[i]?=some x∧x.cells[j]?=some c∧p=i*z+j
 |[],_=>by simp[ai]
 |x::l,hz=>by
  simp only[aW,Bool.and_eq_true] at hz;have hx:=Nat.eq_of_beq_eq_true hz.1;obtain⟨g1,g2⟩:=l6 hz.2;have hf:ai (x::l)=x.cells++ai l:=by simp[ai]
  rw[hf];refine⟨by simp only[List.length_append,g1,hx,List.length_cons];rw[Nat.succ_mul];omega,fun p c hc=>?_⟩;by_cases hp:p<x.cells.length
  ·rw[List.getElem?_append_left hp] at hc;exact⟨0,x,p,rfl,hc,by simp⟩
  ·rw[List.getElem?_append_right (by omega)] at hc;obtain⟨i,y,j,h1,h2,h3⟩:=g2 _ c hc;exact⟨i+1,y,j,by simpa using h1,h2,by rw[Nat.succ_mul];omega⟩
section
variable {s:Nat→Nat} {F:Nat→Prop} {g h:Heap}
theorem BR.Iu{n:Nat}{vs:List AV}{wr:Bool}{es:Nat}{y:dm}(r:BR s n F h (.cells vs wr es) y):∃vs' wr',y=.cells vs' wr' es∧bu s n F h vs vs'∧(wr=true→wr'=true):=by
 cases r with
 |cells h1 h2=>exact⟨_,_,rfl,h1,h2⟩
theorem HR.cells(r:HR s F g h){b:Nat}{vs:List AV}{wr:Bool}{es:Nat}(hg:g.get b=some (.cells vs wr es)):∃vs' wr',h.get (s b)=some (.cells vs' wr' es)∧bu s g.next F h vs vs'∧(wr=true→wr'=true):=by
 obtain⟨y,hy,hb⟩:=r.cj b _ hg;obtain⟨vs',wr',rfl,h1,h2⟩:=hb.Iu;exact⟨vs',wr',hy,h1,h2⟩
theorem vq(r:HR s F g h){x x':dm}(hx:BR s g.next F h x x'):Out g.next s F g h (mz s g.next h.next) F (g.new x) (h.new x'):=by
 have hF:∀b,F b→(h.new x').get b=h.get b:=fun b hb=>by rw[Heap.cB,if_neg (by have:=r.qc b hb;omega)]
 have iC:∀b,b<g.next→mz s g.next h.next b=s b:=fun b hb=>by unfold mz;rw[if_neg (by omega)]
 have hn:g.next≤(g.new x).next:=Nat.le_succ _
 have hold:∀b,b≠g.next→(g.new x).get b=g.get b:=fun b hb=>by rw[Heap.cB,if_neg hb]
 have hnew:(g.new x).get g.next=some x:=by rw[Heap.cB,if_pos rfl]
 have hs0:mz s g.next h.next g.next=h.next:=by unfold mz;rw[if_pos rfl]
 refine⟨⟨?_,?_,?_,?_,?_,?_⟩,hn,Nat.le_succ _,iC,fun _=>id,fun b hb _=>.inl hb,?_,?_,?_,?_⟩
 ·intro b hb;have hb':g.next+1≤b:=hb;rw[hold b (by omega)];exact r.top b (by omega)
 ·intro b hb;have hb':h.next+1≤b:=hb;rw[Heap.cB,if_neg (by omega)];exact r.tH b (by omega)
 ·intro b hb;exact Nat.lt_succ_of_lt (r.qc b hb)
 ·intro b y hy;by_cases he:b=g.next
  ·subst he;rw[hnew] at hy;cases hy
   refine⟨x',?_,hx.mono iC hn (fun _=>id) hF⟩;rw[hs0,Heap.cB,if_pos rfl]
  ·rw[hold b he] at hy;have hne:g.get b≠none:=by rw[hy];simp
   obtain⟨z,hz,hr⟩:=r.cj b y hy;refine⟨z,?_,hr.mono iC hn (fun _=>id) hF⟩;rw[iC b (r.lt hne),Heap.cB,if_neg (by have:=r.slt hne;omega)];exact hz
 ·intro b c hb hc he;by_cases h1:b=g.next<;>by_cases h2:c=g.next
  ·rw[h1,h2]
  ·subst h1;rw[hold c h2] at hc;rw[hs0,iC c (r.lt hc)] at he;have:=r.slt hc;omega
  ·subst h2;rw[hold b h1] at hb;rw[hs0,iC b (r.lt hb)] at he;have:=r.slt hb;omega
  ·rw[hold b h1] at hb;rw[hold c h2] at hc;rw[iC b (r.lt hb),iC c (r.lt hc)] at he;exact r.inj b c hb hc he
 ·intro b hb hf;by_cases h1:b=g.next
  ·subst h1;rw[hs0] at hf;have:=r.qc _ hf;omega
  ·rw[hold b h1] at hb;rw[iC b (r.lt hb)] at hf;exact r.own b hb hf
 ·intro b hb _;rw[Heap.cB,if_neg (by omega)]
 ·intro c hc hn;by_cases h1:c=g.next
  ·subst h1;rw[hs0];exact .inl (Nat.le_refl _)
  ·rw[hold c h1] at hn;exact absurd (r.top c hc) hn
 ·intro c hc hn;rw[hold c (by omega)] at hn;exact hn
 ·intro b st p e ps a c hb;refine⟨st,p,?_⟩;rw[Heap.cB,if_neg ?_]
  ·exact hb
  ·intro e;rw[r.tH b (by omega)] at hb;simp at hb
theorem qx(r:HR s F g h){b:Nat}{x x':dm}(hb:g.get b≠none)(hx:BR s g.next F h x x')
  (hl:∀st p e ps a c,h.get (s b)=some (.loop st p e ps a c)→∃st' p',x'=.loop st' p' e ps a c):Out g.next s F g h s F (g.set b x) (h.set (s b) x'):=by
 have hF:∀c,F c→(h.set (s b) x').get c=h.get c:=fun c hc=>by
  rw[Heap.bP,if_neg];intro e;exact r.own b hb (e▸hc)
 have Df:∀c,(g.set b x).get c≠none→g.get c≠none:=by
  intro c hc;rw[Heap.bP] at hc;split at hc
  ·rename_i e;rw[e];exact hb
  ·exact hc
 refine⟨⟨?_,?_,r.qc,?_,?_,?_⟩,Nat.le_refl _,Nat.le_refl _,fun _ _=>rfl,fun _=>id,fun b hb _=>.inl hb,?_,?_,?_,?_⟩
 ·intro c hc;rw[Heap.bP,if_neg]
  ·exact r.top c hc
  ·intro e;rw[e] at hc;exact hb (r.top b hc)
 ·intro c hc;rw[Heap.bP,if_neg]
  ·exact r.tH c hc
  ·intro e;have:=r.slt hb;rw[e] at hc;have lf:h.next≤s b:=hc;omega
 ·intro c y hy;rw[Heap.bP] at hy;split at hy
  ·rename_i e;cases hy
   subst e;exact⟨x',by rw[Heap.bP,if_pos rfl],hx.mono (fun _ _=>rfl) (Nat.le_refl _) (fun _=>id) hF⟩
  ·rename_i e;obtain⟨z,hz,hr⟩:=r.cj c y hy;refine⟨z,?_,hr.mono (fun _ _=>rfl) (Nat.le_refl _) (fun _=>id) hF⟩;rw[Heap.bP,if_neg]
   ·exact hz
   ·intro e2;exact e (r.inj c b (by rw[hy];simp) hb e2)
 ·intro c d hc hd he;exact r.inj c d (Df c hc) (Df d hd) he
 ·intro c hc;exact r.own c (Df c hc)
 ·intro c hc hp;rw[Heap.bP,if_neg];intro e;exact hp b hb e.symm
 ·intro c hc hn;exact absurd (r.top c hc) (Df c hn)
 ·intro c hc hn;exact Df c hn
 ·intro c st p e ps a d hc;rw[Heap.bP];split
  ·rename_i e2;subst e2;obtain⟨st',p',rfl⟩:=hl st p e ps a d hc;exact⟨st',p',rfl⟩
  ·exact⟨st,p,hc⟩
theorem OJ(r:HR s F g h){b:Nat}{vs:List AV}{wr:Bool}{es:Nat}(hb:g.get b=some (.cells vs wr es)):Out g.next s F g h s F (g.del b) (h.del (s b)):=by
 have xW:g.get b≠none:=by rw[hb];simp
 have hF:∀c,F c→(h.del (s b)).get c=h.get c:=fun c hc=>by
  rw[Heap.dn,if_neg];intro e;exact r.own b xW (e▸hc)
 have Df:∀c,(g.del b).get c≠none→g.get c≠none:=by
  intro c hc;rw[Heap.dn] at hc;split at hc
  ·exact absurd rfl hc
  ·exact hc
 refine⟨⟨?_,?_,r.qc,?_,?_,?_⟩,Nat.le_refl _,Nat.le_refl _,fun _ _=>rfl,fun _=>id,fun b hb _=>.inl hb,?_,?_,?_,?_⟩
 ·intro c hc;rw[Heap.dn];split
  ·rfl
  ·exact r.top c hc
 ·intro c hc;rw[Heap.dn];split
  ·rfl
  ·exact r.tH c hc
 ·intro c y hy;rw[Heap.dn] at hy;split at hy
  ·simp at hy
  ·rename_i e;obtain⟨z,hz,hr⟩:=r.cj c y hy;refine⟨z,?_,hr.mono (fun _ _=>rfl) (Nat.le_refl _) (fun _=>id) hF⟩;rw[Heap.dn,if_neg]
   ·exact hz
   ·intro e2;exact e (r.inj c b (by rw[hy];simp) xW e2)
 ·intro c d hc hd he;exact r.inj c d (Df c hc) (Df d hd) he
 ·intro c hc;exact r.own c (Df c hc)
 ·intro c hc hp;rw[Heap.dn,if_neg];intro e;exact hp b xW e.symm
 ·intro c hc hn;exact absurd (r.top c hc) (Df c hn)
 ·intro c hc hn;exact Df c hn
 ·intro c st p e ps a d hc;rw[Heap.dn,if_neg]
  ·exact⟨st,p,hc⟩
  ·intro e2;subst e2;obtain⟨vs',wr',hy,_⟩:=r.cells hb;rw[hy] at hc;simp at hc
theorem tB(r:HR s F g h){b o:Nat}{xs xs':List AV}{g1:Heap}(q:bu s g.next F h xs xs')(hs:g.dU b o xs=some g1):
  ∃h1,h.dU (s b) o xs'=some h1∧Out g.next s F g h s F g1 h1∧g1.next=g.next:=by
 unfold Heap.dU at hs;split at hs
 ·rename_i vs es hg;cases hb:(Nat.ble (o+xs.length) vs.length&&bx xs) with
  |false=>simp[hb] at hs
  |true=>
   simp only[hb,cond_true,Option.some.injEq] at hs;subst hs;obtain⟨vs',wr',hy,hr,hw⟩:=r.cells hg;have hw':=hw rfl;subst hw';refine⟨_,?_,qx r (by rw[hg];simp) (.cells (hr.splice q o ?_) (fun _=>rfl)) ?_,rfl⟩
   ·simp only[Heap.dU,hy];rw[←q.1,←hr.1,q.flat,hb];rfl
   ·simp only[Bool.and_eq_true] at hb;exact Nat.le_of_ble_eq_true hb.1
   ·intro st p e ps a c hc;rw[hy] at hc;simp at hc
 ·simp at hs
theorem BI(r:HR s F g h){b o:Nat}{v:AV}(hl:g.bC b o=some v):∃v',h.bC (s b) o=some v'∧Rel s g.next F h v v':=by
 obtain⟨vs,wr,es,hg,hv⟩:=I5 hl;obtain⟨vs',wr',hy,hr,_⟩:=r.cells hg;obtain⟨v',h1,h2⟩:=hr.get hv;exact⟨v',by rw[uy hy];exact h1,h2⟩
theorem nh(r:HR s F g h){b o k:Nat}{cs:List AV}(hl:g.bn b o k=some cs):∃cs',h.bn (s b) o k=some cs'∧bu s g.next F h cs cs':=by
 obtain⟨vs,wr,es,hg,hv,rfl⟩:=I6 hl;obtain⟨vs',wr',hy,hr,_⟩:=r.cells hg;exact⟨_,jZ hy (by rw[←hr.1];exact hv),(hr.drop o).take k⟩
theorem su:∀{l:List AV} {t:List UInt8},dL l=some t→nk l=true
 |[],_,_=>rfl
 |x::l,t,hs=>by
  cases x with
  |int k m=>
   cases k<;>simp only[dL,Option.map_eq_some_iff] at hs<;>try(simp at hs;done)
   obtain⟨t',h1,_⟩:=hs;simp only[nk,AV.pl,Bool.true_and];exact su h1
  |_=>simp[dL] at hs
theorem sj(r:HR s F g h){size k:Nat}{x x':AV}{new:List AV}(q:Rel s g.next F h x x')(hs:iw size g x=some (k,new)):∃new',aY size h x'=some (k,new')∧bu s g.next F h new new':=by
 cases q with
 |jL=>
  simp only[iw,aW,cond_true,Option.some.injEq,Prod.mk.injEq] at hs;obtain⟨rfl,rfl⟩:=hs;exact⟨[],rfl,.nil⟩
 |Bw hk=>
  simp only[iw,aW,cond_true,Option.some.injEq,Prod.mk.injEq] at hs;obtain⟨rfl,rfl⟩:=hs;exact⟨[],rfl,.nil⟩
 |@fz kk l b o len cap op vs wr es z hf hg h1 h2 h3 h4 qQ h5 h6 h7=>
  simp only[iw] at hs;cases hz:aW size l with
  |false=>simp[hz] at hs
  |true=>
   simp only[hz,cond_true,Option.some.injEq,Prod.mk.injEq] at hs;obtain⟨rfl,rfl⟩:=hs;subst h2;have hzz:l.length*size=l.length*z:=by
    by_cases hne:l=[]
    ·subst hne;simp
    ·rw[ua hz h1 hne]
   have hfl:=l6 h1;refine⟨(vs.drop o).take (l.length*size),?_,?_,?_⟩
   ·simp only[aY,jZ hg (by rw[hzz];exact h3:o+l.length*size≤vs.length),Option.map_some]
   ·rw[hfl.1];simp only[List.length_take,List.length_drop];omega
   ·intro p c y hc hy;obtain⟨i,w,j,g1,g2,rfl⟩:=hfl.2 p c hc;rw[List.getElem?_take] at hy;split at hy
    ·rw[List.getElem?_drop] at hy;exact h7 i w j c y g1 g2 hy
    ·simp at hy
 |aD=>
  simp only[iw,aY,Option.some.injEq,Prod.mk.injEq] at hs;obtain⟨rfl,rfl⟩:=hs;exact⟨[],rfl,.nil⟩
 |rest hb=>
  simp only[iw,aY,Option.some.injEq,Prod.mk.injEq] at hs;obtain⟨rfl,rfl⟩:=hs;exact⟨[],rfl,.nil⟩
 |sl hb=>
  simp only[iw,aY,Option.map_eq_some_iff,Prod.mk.injEq] at hs;obtain⟨cs,hl,rfl,rfl⟩:=hs;obtain⟨cs',h1,h2⟩:=nh r hl;exact⟨cs',by simp only[aY,h1,Option.map_some],h2⟩
 |@str t=>
  simp only[iw,aY] at hs;refine⟨new,hs,?_⟩;cases h1:Nat.beq size 1 with
  |false=>simp[h1] at hs
  |true=>
   simp only[h1,cond_true,Option.some.injEq,Prod.mk.injEq] at hs;obtain⟨rfl,rfl⟩:=hs;have:nk (t.map fun b=>AV.int .u8 b.toNat)=true:=by
    clear h1;induction t with
    |nil=>rfl
    |cons a t ih=>simp only[List.map_cons,nk,AV.pl,Bool.true_and];exact ih
   have:=Rel.eR (s:=s) (n:=g.next) (F:=F) (h:=h) (v:=.agg (t.map fun b=>AV.int .u8 b.toNat)) (by simpa[AV.pl] using this);cases this with
   |agg a b=>exact⟨a,b⟩
 |_=>simp[iw,aY] at hs
theorem ou{x y:AV}{b:Bool}(he:gV x y=some b):x.pl=true∧y.pl=true:=by
 cases x<;>cases y<;>simp[gV] at he<;>exact⟨rfl,rfl⟩
theorem rB{n:Nat}{k k':AV}(hk:Rel s n F h k k'):∀{es es':List (AV×AV)},uC s n F h es es'→∀{o:Option AV},findKey k es=some o→
  ∃o',findKey k' es'=some o'∧(match o,o' with|none,none=>True|some v,some v'=>Rel s n F h v v'|_,_=>False):=by
 intro es;induction es with
 |nil=>
  intro es' q o ho;have:es'=[]:=List.length_eq_zero_iff.1 (by simpa using q.1.symm);subst this;simp only[findKey,Option.some.injEq] at ho;subst ho;exact⟨none,rfl,trivial⟩
 |cons p es ih=>
  intro es' q o ho;cases es' with
  |nil=>have:=q.1;simp at this
  |cons p' es'=>
  obtain⟨x,v⟩:=p;obtain⟨x',v'⟩:=p';have h0:Rel s n F h x x'∧Rel s n F h v v':=q.2 0 _ _ rfl rfl;simp only[findKey] at ho⊢;split at ho
  ·rename_i he;cases ho
   obtain⟨g1,g2⟩:=ou he;have e1:k'=k:=hk.jO g1;have e2:x'=x:=h0.1.jO g2;subst e1 e2;rw[he];exact⟨_,rfl,h0.2⟩
  ·rename_i he;obtain⟨g1,g2⟩:=ou he;have e1:k'=k:=hk.jO g1;have e2:x'=x:=h0.1.jO g2;subst e1 e2;rw[he];exact ih ⟨by simpa using q.1,fun i a b ha hb=>q.2 (i+1) a b (by simpa using ha) (by simpa using hb)⟩ ho
  ·simp at ho
theorem CQ(r:HR s F g h){o:E9}{vals vals':List AV}{v:AV}(q:bu s g.next F h vals vals')(hc:Gk (.r o)=true)(hp:rV o vals g=some v):∃v',rI o vals' h=some v'∧Rel s g.next F h v v':=by
 cases o with
 |bC=>
  obtain⟨x,rfl,hx⟩:=fR (show l1 vals _=some v from hp);obtain⟨y,rfl,hy⟩:=q.one;split at hx
  ·cases hy with
   |fp g1 g2 g3 g4 g5=>
    have hl:=(List.getElem?_eq_some_iff.1 hx).1;have:=List.getElem?_eq_getElem (l:=_) (i:=_) (Nat.lt_of_lt_of_le (Nat.add_lt_add_left hl _) g4);subst g3;exact⟨_,by simp only[rI];rw[uy g2];exact this,g5 _ _ _ hx this⟩
  ·cases hy with
   |ptr hb=>
    obtain⟨v',h1,h2⟩:=BI r hx;exact⟨v',h1,h2⟩
  ·simp at hx
 |bn k=>
  obtain⟨x,rfl,hx⟩:=fR (show l1 vals _=some v from hp);obtain⟨y,rfl,hy⟩:=q.one;split at hx
  ·rename_i cs o;cases hy with
   |@fp _ _ b _ base vs wr es g1 g2 g3 g4 g5=>
    cases hb:Nat.ble (o+k) cs.length with
    |false=>simp[hb] at hx
    |true=>
     simp only[hb,cond_true,Option.some.injEq] at hx;subst hx g3;have hle:=Nat.le_of_ble_eq_true hb;refine⟨.agg ((vs.drop (base+o)).take k),by simp only[rI,jZ g2 (show base+o+k≤vs.length by omega),Option.map_some],?_⟩;refine .agg (by simp only[List.length_take,List.length_drop];omega) ?_;intro i a b ha hb;rw[List.getElem?_take] at ha hb;split at ha
     ·rw[if_pos ‹_›,List.getElem?_drop] at hb;rw[List.getElem?_drop] at ha;exact g5 _ _ _ ha (by rw[←hb];congr 1;omega)
     ·simp at ha
  ·cases hy with
   |ptr hb=>
    simp only[Option.map_eq_some_iff] at hx;obtain⟨cs,hcs,rfl⟩:=hx;obtain⟨cs',h1,h2⟩:=nh r hcs;exact⟨.agg cs',by simp only[rI,h1,Option.map_some],.agg h2.1 h2.2⟩
  ·simp at hx
 |lookup ok z=>
  have hz:Rel s g.next F h z z:=.eR (by simpa[Gk] using hc);have iD:rI (.lookup ok z) vals g=some v:=hp;unfold rI at iD;split at iD<;>rename_i heq<;>try(simp at heq;done)
  ·rename_i ok' z' b k;simp only[E9.lookup.injEq] at heq;obtain⟨rfl,rfl⟩:=heq;obtain⟨x',y',rfl,h1,h2⟩:=q.two;cases h1 with
   |map hb=>
    split at iD
    ·rename_i es _ _ hg;obtain⟨y,hy,Ax⟩:=r.cj _ _ hg;cases Ax with
     |map SG=>
      simp only[rI,hy];split at iD
      ·rename_i w hw;cases iD
       obtain⟨o',ho',hm⟩:=rB h2 SG hw;rw[ho'];cases o' with
       |none=>exact hm.elim
       |some w'=>
        refine⟨_,rfl,?_⟩;cases ok
        ·exact hm
        ·have:=bu.cons hm (bu.cons (x:=.bool true) .bool .nil);exact .cQ this.1 this.2
      ·rename_i hw;cases iD
       obtain⟨o',ho',hm⟩:=rB h2 SG hw;rw[ho'];cases o' with
       |some w'=>exact hm.elim
       |none=>
        refine⟨_,rfl,?_⟩;cases ok
        ·exact hz
        ·have:=bu.cons hz (bu.cons (x:=.bool false) .bool .nil);exact .cQ this.1 this.2
      ·simp at iD
    ·simp at iD
  ·rename_i ok' z' k;simp only[E9.lookup.injEq] at heq;obtain⟨rfl,rfl⟩:=heq;obtain⟨x',y',rfl,h1,h2⟩:=q.two;cases h1
   cases iD
   refine⟨_,rfl,?_⟩;cases ok
   ·exact hz
   ·have:=bu.cons hz (bu.cons (x:=.bool false) .bool .nil);exact .cQ this.1 this.2
  ·simp at iD
 |toStr=>
  obtain⟨x,rfl,hx⟩:=fR (show l1 vals _=some v from hp);obtain⟨y,rfl,hy⟩:=q.one;split at hx
  ·rename_i k l;simp only[Option.map_eq_some_iff] at hx;obtain⟨t,ht,rfl⟩:=hx;have m9:=su ht;have hsz:aW 1 l=true:=by
    refine lX.2 fun i x hx=>?_;have:=jS m9 hx;have hint:∀(l:List AV) (t:List UInt8),dL l=some t→∀(i:Nat) (x:AV),l[i]?=some x→x.cells.length=1:=by
     intro l;induction l with
     |nil=>intro t _ i x hx;simp at hx
     |cons y l ih=>
      intro t ht i x hx;cases y with
      |int k m=>
       cases k<;>simp only[dL,Option.map_eq_some_iff] at ht<;>try(simp at ht;done)
       obtain⟨t',h1,_⟩:=ht;cases i with
       |zero=>simp at hx;subst hx;rfl
       |succ i=>exact ih t' h1 i x (by simpa using hx)
      |_=>simp[dL] at ht
    exact hint l t ht i x hx
   obtain⟨new',h1,h2⟩:=sj r (size:=1) (k:=l.length) (new:=ai l) hy (by simp only[iw,hsz,cond_true]);have hfl:ai l=l:=by
    refine List.ext_getElem? fun i=>?_;have hg:=l6 hsz;cases Wr:(ai l)[i]? with
    |none=>
     have:=List.getElem?_eq_none_iff.1 Wr;rw[List.getElem?_eq_none (by rw[hg.1] at this;omega)]
    |some c=>
     obtain⟨i',x,j,a1,a2,a3⟩:=hg.2 i c Wr;have hone:=dN hsz a1;have hj:=(List.getElem?_eq_some_iff.1 a2).1;have hj0:j=0:=by omega
     subst hj0;have hi:i=i':=by omega
     subst hi;rw[a1];have oy:=jS m9 a1;have hint:∀(l:List AV) (t:List UInt8),dL l=some t→∀(i:Nat) (x:AV),l[i]?=some x→x.cells=[x]:=by
      intro l;induction l with
      |nil=>intro t _ i x hx;simp at hx
      |cons y l ih=>
       intro t ht i x hx;cases y with
       |int k m=>
        cases k<;>simp only[dL,Option.map_eq_some_iff] at ht<;>try(simp at ht;done)
        obtain⟨t',h1,_⟩:=ht;cases i with
        |zero=>simp at hx;subst hx;rfl
        |succ i=>exact ih t' h1 i x (by simpa using hx)
       |_=>simp[dL] at ht
     rw[hint l t ht i x a1] at a2;simp at a2;rw[a2]
   rw[hfl] at h2;have Lq:=h2.jO m9;subst Lq;cases hy with
   |jL=>simp only[dL,Option.some.injEq] at ht;subst ht;exact⟨_,rfl,.str⟩
   |Bw=>simp only[dL,Option.some.injEq] at ht;subst ht;exact⟨_,rfl,.str⟩
   |fz=>
    simp only[aY,Nat.mul_one,Option.map_eq_some_iff,Prod.mk.injEq] at h1;obtain⟨cs,hcs,hlen,rfl⟩:=h1;exact⟨.str t,by simp only[rI,hcs,ht,Option.map_some],.str⟩
  ·unfold rI at hx;split at hx<;>rename_i heq hne<;>try(simp at heq;done)
   ·cases hx
    rename_i adT;simp only[List.cons.injEq,and_true] at hne;subst hne;cases hy
    exact⟨_,rfl,.str⟩
   ·simp only[List.cons.injEq,and_true] at hne;subst hne;cases hy
   ·simp only[List.cons.injEq,and_true] at hne;subst hne;cases hx
    cases hy
    exact⟨_,rfl,.str⟩
   ·simp only[List.cons.injEq,and_true] at hne;subst hne;split at hx
    ·rename_i cs hcs;simp only[Option.map_eq_some_iff] at hx;obtain⟨t,ht,rfl⟩:=hx;cases hy with
     |sl hb=>
      obtain⟨cs',h1,h2⟩:=nh r hcs;rw[h2.jO (su ht)] at h1;exact⟨.str t,by simp only[rI,h1,ht,Option.map_some],.str⟩
    ·simp at hx
   ·simp at hx
 |Mb=>
  have iD:rI .Mb vals g=some v:=hp;unfold rI at iD;split at iD<;>rename_i heq<;>try(simp at heq;done)
  ·obtain⟨y,rfl,hy⟩:=q.one;cases hy
   cases iD
   exact⟨_,rfl,.int⟩
  ·obtain⟨y,rfl,hy⟩:=q.one;cases hy with
   |map hb=>
    split at iD
    ·rename_i es _ _ hg;obtain⟨y,SU,Ax⟩:=r.cj _ _ hg;cases Ax with
     |map SG=>
      cases iD
      refine⟨.int .i64 es.length,?_,.int⟩;simp only[rI,SU];rw[SG.1]
    ·simp at iD
  ·simp at iD
 |entry=>simp[rV] at hp
end
end Ads
end Go.Proofs.Ytepdklcpagielaa
