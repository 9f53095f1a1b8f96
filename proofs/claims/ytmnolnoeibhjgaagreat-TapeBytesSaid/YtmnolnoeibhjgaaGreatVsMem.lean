/-
  The operations of Vs on the heap, done in Ads.
-/
import Derived.Test.YtmnolnoeibhjgaaGreatVsOp
set_option linter.unusedVariables false
set_option linter.unusedSimpArgs false
namespace Go.Proofs.YtmnolnoeibhjgaaGreat
namespace Ads
def j0(s:Nat→Nat)(a b:Nat):Nat→Nat:=fun x=>if x=a then b else s x
theorem ez{h:Heap}{b o k:Nat}{vs:List AV}{wr:Bool}{es:Nat}(hg:h.get b=some (.cells vs wr es))(hl:o+k≤vs.length):h.bt b o k=some ((vs.drop o).take k):=by
 simp only[Heap.bt,Heap.row,hg];rw[Nat.ble_eq_true_of_le hl];rfl
theorem E4{h:Heap}{b o k:Nat}{cs:List AV}(hl:h.bt b o k=some cs):∃vs wr es,h.get b=some (.cells vs wr es)∧o+k≤vs.length∧cs=(vs.drop o).take k:=by
 simp only[Heap.bt,Heap.row] at hl;split at hl
 ·rename_i xs hx;split at hx
  ·rename_i vs wr es hg;cases hx
   cases hb:Nat.ble (o+k) xs.length with
   |false=>simp[hb] at hl
   |true=>
    simp only[hb,cond_true,Option.some.injEq] at hl;exact⟨_,_,_,hg,Nat.le_of_ble_eq_true hb,hl.symm⟩
  ·simp at hx
 ·simp at hl
theorem rq{h:Heap}{b o:Nat}{vs:List AV}{wr:Bool}{es:Nat}(hg:h.get b=some (.cells vs wr es)):h.cP b o=vs[o]?:=by
 simp only[Heap.cP,Heap.row,hg]
theorem E3{h:Heap}{b o:Nat}{v:AV}(hl:h.cP b o=some v):∃vs wr es,h.get b=some (.cells vs wr es)∧vs[o]?=some v:=by
 simp only[Heap.cP,Heap.row] at hl;split at hl
 ·rename_i xs hx;split at hx
  ·rename_i vs wr es hg;cases hx
   exact⟨_,_,_,hg,hl⟩
  ·simp at hx
 ·simp at hl
theorem jR{z:Nat}:∀{l:List AV},aL z l=true→(ak l).length=l.length*z∧∀(p:Nat) (c:AV),(ak l)[p]?=some c→∃i x j,l[i]?=some x∧x.cells[j]?=some c∧p=i*z+j
 |[],_=>by simp[ak]
 |x::l,hz=>by
  simp only[aL,Bool.and_eq_true] at hz;have hx:=Nat.eq_of_beq_eq_true hz.1;obtain⟨g1,g2⟩:=jR hz.2;have hf:ak (x::l)=x.cells++ak l:=by simp[ak]
  rw[hf];refine⟨by simp only[List.length_append,g1,hx,List.length_cons];rw[Nat.succ_mul];omega,fun p c hc=>?_⟩;by_cases hp:p<x.cells.length
  ·rw[List.getElem?_append_left hp] at hc;exact⟨0,x,p,rfl,hc,by simp⟩
  ·rw[List.getElem?_append_right (by omega)] at hc;obtain⟨i,y,j,h1,h2,h3⟩:=g2 _ c hc;exact⟨i+1,y,j,by simpa using h1,h2,by rw[Nat.succ_mul];omega⟩
section
variable {s:Nat→Nat} {F:Nat→Prop} {g h:Heap}
theorem BR.EB{n:Nat}{vs:List AV}{wr:Bool}{es:Nat}{y:bP}(r:BR s n F h (.cells vs wr es) y):∃vs' wr',y=.cells vs' wr' es∧aX s n F h vs vs'∧(wr=true→wr'=true):=by
 cases r with
 |cells h1 h2=>exact⟨_,_,rfl,h1,h2⟩
theorem HR.cells(r:HR s F g h){b:Nat}{vs:List AV}{wr:Bool}{es:Nat}(hg:g.get b=some (.cells vs wr es)):∃vs' wr',h.get (s b)=some (.cells vs' wr' es)∧aX s g.next F h vs vs'∧(wr=true→wr'=true):=by
 obtain⟨y,hy,hb⟩:=r.bH b _ hg;obtain⟨vs',wr',rfl,h1,h2⟩:=hb.EB;exact⟨vs',wr',hy,h1,h2⟩
theorem sy(r:HR s F g h){x x':bP}(hx:BR s g.next F h x x'):Out g.next s F g h (j0 s g.next h.next) F (g.new x) (h.new x'):=by
 have hF:∀b,F b→(h.new x').get b=h.get b:=fun b hb=>by rw[Heap.bT,if_neg (by have:=r.nG b hb;omega)]
 have ga:∀b,b<g.next→j0 s g.next h.next b=s b:=fun b hb=>by unfold j0;rw[if_neg (by omega)]
 have hn:g.next≤(g.new x).next:=Nat.le_succ _
 have hold:∀b,b≠g.next→(g.new x).get b=g.get b:=fun b hb=>by rw[Heap.bT,if_neg hb]
 have hnew:(g.new x).get g.next=some x:=by rw[Heap.bT,if_pos rfl]
 have hs0:j0 s g.next h.next g.next=h.next:=by unfold j0;rw[if_pos rfl]
 refine⟨⟨?_,?_,?_,?_,?_,?_⟩,hn,Nat.le_succ _,ga,fun _=>id,fun b hb _=>.inl hb,?_,?_,?_,?_⟩
 ·intro b hb;have hb':g.next+1≤b:=hb;rw[hold b (by omega)];exact r.top b (by omega)
 ·intro b hb;have hb':h.next+1≤b:=hb;rw[Heap.bT,if_neg (by omega)];exact r.qz b (by omega)
 ·intro b hb;exact Nat.lt_succ_of_lt (r.nG b hb)
 ·intro b y hy;by_cases he:b=g.next
  ·subst he;rw[hnew] at hy;cases hy
   refine⟨x',?_,hx.mono ga hn (fun _=>id) hF⟩;rw[hs0,Heap.bT,if_pos rfl]
  ·rw[hold b he] at hy;have hne:g.get b≠none:=by rw[hy];simp
   obtain⟨z,hz,hr⟩:=r.bH b y hy;refine⟨z,?_,hr.mono ga hn (fun _=>id) hF⟩;rw[ga b (r.lt hne),Heap.bT,if_neg (by have:=r.slt hne;omega)];exact hz
 ·intro b c hb hc he;by_cases h1:b=g.next<;>by_cases h2:c=g.next
  ·rw[h1,h2]
  ·subst h1;rw[hold c h2] at hc;rw[hs0,ga c (r.lt hc)] at he;have:=r.slt hc;omega
  ·subst h2;rw[hold b h1] at hb;rw[hs0,ga b (r.lt hb)] at he;have:=r.slt hb;omega
  ·rw[hold b h1] at hb;rw[hold c h2] at hc;rw[ga b (r.lt hb),ga c (r.lt hc)] at he;exact r.inj b c hb hc he
 ·intro b hb hf;by_cases h1:b=g.next
  ·subst h1;rw[hs0] at hf;have:=r.nG _ hf;omega
  ·rw[hold b h1] at hb;rw[ga b (r.lt hb)] at hf;exact r.own b hb hf
 ·intro b hb _;rw[Heap.bT,if_neg (by omega)]
 ·intro c hc hn;by_cases h1:c=g.next
  ·subst h1;rw[hs0];exact .inl (Nat.le_refl _)
  ·rw[hold c h1] at hn;exact absurd (r.top c hc) hn
 ·intro c hc hn;rw[hold c (by omega)] at hn;exact hn
 ·intro b st p e ps a c hb;refine⟨st,p,?_⟩;rw[Heap.bT,if_neg ?_]
  ·exact hb
  ·intro e;rw[r.qz b (by omega)] at hb;simp at hb
theorem nU(r:HR s F g h){b:Nat}{x x':bP}(hb:g.get b≠none)(hx:BR s g.next F h x x')
  (hl:∀st p e ps a c,h.get (s b)=some (.loop st p e ps a c)→∃st' p',x'=.loop st' p' e ps a c):Out g.next s F g h s F (g.set b x) (h.set (s b) x'):=by
 have hF:∀c,F c→(h.set (s b) x').get c=h.get c:=fun c hc=>by
  rw[Heap.aT,if_neg];intro e;exact r.own b hb (e▸hc)
 have Ad:∀c,(g.set b x).get c≠none→g.get c≠none:=by
  intro c hc;rw[Heap.aT] at hc;split at hc
  ·rename_i e;rw[e];exact hb
  ·exact hc
 refine⟨⟨?_,?_,r.nG,?_,?_,?_⟩,Nat.le_refl _,Nat.le_refl _,fun _ _=>rfl,fun _=>id,fun b hb _=>.inl hb,?_,?_,?_,?_⟩
 ·intro c hc;rw[Heap.aT,if_neg]
  ·exact r.top c hc
  ·intro e;rw[e] at hc;exact hb (r.top b hc)
 ·intro c hc;rw[Heap.aT,if_neg]
  ·exact r.qz c hc
  ·intro e;have:=r.slt hb;rw[e] at hc;have jC:h.next≤s b:=hc;omega
 ·intro c y hy;rw[Heap.aT] at hy;split at hy
  ·rename_i e;cases hy
   subst e;exact⟨x',by rw[Heap.aT,if_pos rfl],hx.mono (fun _ _=>rfl) (Nat.le_refl _) (fun _=>id) hF⟩
  ·rename_i e;obtain⟨z,hz,hr⟩:=r.bH c y hy;refine⟨z,?_,hr.mono (fun _ _=>rfl) (Nat.le_refl _) (fun _=>id) hF⟩;rw[Heap.aT,if_neg]
   ·exact hz
   ·intro e2;exact e (r.inj c b (by rw[hy];simp) hb e2)
 ·intro c d hc hd he;exact r.inj c d (Ad c hc) (Ad d hd) he
 ·intro c hc;exact r.own c (Ad c hc)
 ·intro c hc hp;rw[Heap.aT,if_neg];intro e;exact hp b hb e.symm
 ·intro c hc hn;exact absurd (r.top c hc) (Ad c hn)
 ·intro c hc hn;exact Ad c hn
 ·intro c st p e ps a d hc;rw[Heap.aT];split
  ·rename_i e2;subst e2;obtain⟨st',p',rfl⟩:=hl st p e ps a d hc;exact⟨st',p',rfl⟩
  ·exact⟨st,p,hc⟩
theorem Jq(r:HR s F g h){b:Nat}{vs:List AV}{wr:Bool}{es:Nat}(hb:g.get b=some (.cells vs wr es)):Out g.next s F g h s F (g.del b) (h.del (s b)):=by
 have tX:g.get b≠none:=by rw[hb];simp
 have hF:∀c,F c→(h.del (s b)).get c=h.get c:=fun c hc=>by
  rw[Heap.cJ,if_neg];intro e;exact r.own b tX (e▸hc)
 have Ad:∀c,(g.del b).get c≠none→g.get c≠none:=by
  intro c hc;rw[Heap.cJ] at hc;split at hc
  ·exact absurd rfl hc
  ·exact hc
 refine⟨⟨?_,?_,r.nG,?_,?_,?_⟩,Nat.le_refl _,Nat.le_refl _,fun _ _=>rfl,fun _=>id,fun b hb _=>.inl hb,?_,?_,?_,?_⟩
 ·intro c hc;rw[Heap.cJ];split
  ·rfl
  ·exact r.top c hc
 ·intro c hc;rw[Heap.cJ];split
  ·rfl
  ·exact r.qz c hc
 ·intro c y hy;rw[Heap.cJ] at hy;split at hy
  ·simp at hy
  ·rename_i e;obtain⟨z,hz,hr⟩:=r.bH c y hy;refine⟨z,?_,hr.mono (fun _ _=>rfl) (Nat.le_refl _) (fun _=>id) hF⟩;rw[Heap.cJ,if_neg]
   ·exact hz
   ·intro e2;exact e (r.inj c b (by rw[hy];simp) tX e2)
 ·intro c d hc hd he;exact r.inj c d (Ad c hc) (Ad d hd) he
 ·intro c hc;exact r.own c (Ad c hc)
 ·intro c hc hp;rw[Heap.cJ,if_neg];intro e;exact hp b tX e.symm
 ·intro c hc hn;exact absurd (r.top c hc) (Ad c hn)
 ·intro c hc hn;exact Ad c hn
 ·intro c st p e ps a d hc;rw[Heap.cJ,if_neg]
  ·exact⟨st,p,hc⟩
  ·intro e2;subst e2;obtain⟨vs',wr',hy,_⟩:=r.cells hb;rw[hy] at hc;simp at hc
theorem qp(r:HR s F g h){b o:Nat}{xs xs':List AV}{g1:Heap}(q:aX s g.next F h xs xs')(hs:g.cZ b o xs=some g1):
  ∃h1,h.cZ (s b) o xs'=some h1∧Out g.next s F g h s F g1 h1∧g1.next=g.next:=by
 unfold Heap.cZ at hs;split at hs
 ·rename_i vs es hg;cases hb:(Nat.ble (o+xs.length) vs.length&&bz xs) with
  |false=>simp[hb] at hs
  |true=>
   simp only[hb,cond_true,Option.some.injEq] at hs;subst hs;obtain⟨vs',wr',hy,hr,hw⟩:=r.cells hg;have Ym:=hw rfl;subst Ym;refine⟨_,?_,nU r (by rw[hg];simp) (.cells (hr.splice q o ?_) (fun _=>rfl)) ?_,rfl⟩
   ·simp only[Heap.cZ,hy];rw[←q.1,←hr.1,q.flat,hb];rfl
   ·simp only[Bool.and_eq_true] at hb;exact Nat.le_of_ble_eq_true hb.1
   ·intro st p e ps a c hc;rw[hy] at hc;simp at hc
 ·simp at hs
theorem yg(r:HR s F g h){b o:Nat}{v:AV}(hl:g.cP b o=some v):∃v',h.cP (s b) o=some v'∧Rel s g.next F h v v':=by
 obtain⟨vs,wr,es,hg,hv⟩:=E3 hl;obtain⟨vs',wr',hy,hr,_⟩:=r.cells hg;obtain⟨v',h1,h2⟩:=hr.get hv;exact⟨v',by rw[rq hy];exact h1,h2⟩
theorem kO(r:HR s F g h){b o k:Nat}{cs:List AV}(hl:g.bt b o k=some cs):∃cs',h.bt (s b) o k=some cs'∧aX s g.next F h cs cs':=by
 obtain⟨vs,wr,es,hg,hv,rfl⟩:=E4 hl;obtain⟨vs',wr',hy,hr,_⟩:=r.cells hg;exact⟨_,ez hy (by rw[←hr.1];exact hv),(hr.drop o).take k⟩
theorem pK:∀{l:List AV} {t:List UInt8},cI l=some t→kS l=true
 |[],_,_=>rfl
 |x::l,t,hs=>by
  cases x with
  |int k m=>
   cases k<;>simp only[cI,Option.map_eq_some_iff] at hs<;>try(simp at hs;done)
   obtain⟨t',h1,_⟩:=hs;simp only[kS,AV.pl,Bool.true_and];exact pK h1
  |_=>simp[cI] at hs
theorem pF(r:HR s F g h){size k:Nat}{x x':AV}{new:List AV}(q:Rel s g.next F h x x')(hs:eY size g x=some (k,new)):∃new',aP size h x'=some (k,new')∧aX s g.next F h new new':=by
 cases q with
 |iJ=>
  simp only[eY,aL,cond_true,Option.some.injEq,Prod.mk.injEq] at hs;obtain⟨rfl,rfl⟩:=hs;exact⟨[],rfl,.nil⟩
 |xW hk=>
  simp only[eY,aL,cond_true,Option.some.injEq,Prod.mk.injEq] at hs;obtain⟨rfl,rfl⟩:=hs;exact⟨[],rfl,.nil⟩
 |@fz kk l b o len cap op vs wr es z hf hg h1 h2 h3 h4 lS h5 h6 h7=>
  simp only[eY] at hs;cases hz:aL size l with
  |false=>simp[hz] at hs
  |true=>
   simp only[hz,cond_true,Option.some.injEq,Prod.mk.injEq] at hs;obtain⟨rfl,rfl⟩:=hs;subst h2;have Yt:l.length*size=l.length*z:=by
    by_cases hne:l=[]
    ·subst hne;simp
    ·rw[qR hz h1 hne]
   have hfl:=jR h1;refine⟨(vs.drop o).take (l.length*size),?_,?_,?_⟩
   ·simp only[aP,ez hg (by rw[Yt];exact h3:o+l.length*size≤vs.length),Option.map_some]
   ·rw[hfl.1];simp only[List.length_take,List.length_drop];omega
   ·intro p c y hc hy;obtain⟨i,w,j,g1,g2,rfl⟩:=hfl.2 p c hc;rw[List.getElem?_take] at hy;split at hy
    ·rw[List.getElem?_drop] at hy;exact h7 i w j c y g1 g2 hy
    ·simp at hy
 |az=>
  simp only[eY,aP,Option.some.injEq,Prod.mk.injEq] at hs;obtain⟨rfl,rfl⟩:=hs;exact⟨[],rfl,.nil⟩
 |rest hb=>
  simp only[eY,aP,Option.some.injEq,Prod.mk.injEq] at hs;obtain⟨rfl,rfl⟩:=hs;exact⟨[],rfl,.nil⟩
 |sl hb=>
  simp only[eY,aP,Option.map_eq_some_iff,Prod.mk.injEq] at hs;obtain⟨cs,hl,rfl,rfl⟩:=hs;obtain⟨cs',h1,h2⟩:=kO r hl;exact⟨cs',by simp only[aP,h1,Option.map_some],h2⟩
 |@str t=>
  simp only[eY,aP] at hs;refine⟨new,hs,?_⟩;cases h1:Nat.beq size 1 with
  |false=>simp[h1] at hs
  |true=>
   simp only[h1,cond_true,Option.some.injEq,Prod.mk.injEq] at hs;obtain⟨rfl,rfl⟩:=hs;have:kS (t.map fun b=>AV.int .u8 b.toNat)=true:=by
    clear h1;induction t with
    |nil=>rfl
    |cons a t ih=>simp only[List.map_cons,kS,AV.pl,Bool.true_and];exact ih
   have:=Rel.dU (s:=s) (n:=g.next) (F:=F) (h:=h) (v:=.agg (t.map fun b=>AV.int .u8 b.toNat)) (by simpa[AV.pl] using this);cases this with
   |agg a b=>exact⟨a,b⟩
 |_=>simp[eY,aP] at hs
theorem lZ{x y:AV}{b:Bool}(he:fI x y=some b):x.pl=true∧y.pl=true:=by
 cases x<;>cases y<;>simp[fI] at he<;>exact⟨rfl,rfl⟩
theorem oU{n:Nat}{k k':AV}(hk:Rel s n F h k k'):∀{es es':List (AV×AV)},rB s n F h es es'→∀{o:Option AV},findKey k es=some o→
  ∃o',findKey k' es'=some o'∧(match o,o' with|none,none=>True|some v,some v'=>Rel s n F h v v'|_,_=>False):=by
 intro es;induction es with
 |nil=>
  intro es' q o ho;have:es'=[]:=List.length_eq_zero_iff.1 (by simpa using q.1.symm);subst this;simp only[findKey,Option.some.injEq] at ho;subst ho;exact⟨none,rfl,trivial⟩
 |cons p es ih=>
  intro es' q o ho;cases es' with
  |nil=>have:=q.1;simp at this
  |cons p' es'=>
  obtain⟨x,v⟩:=p;obtain⟨x',v'⟩:=p';have h0:Rel s n F h x x'∧Rel s n F h v v':=q.2 0 _ _ rfl rfl;simp only[findKey] at ho⊢;split at ho
  ·rename_i he;cases ho
   obtain⟨g1,g2⟩:=lZ he;have e1:k'=k:=hk.iK g1;have e2:x'=x:=h0.1.iK g2;subst e1 e2;rw[he];exact⟨_,rfl,h0.2⟩
  ·rename_i he;obtain⟨g1,g2⟩:=lZ he;have e1:k'=k:=hk.iK g1;have e2:x'=x:=h0.1.iK g2;subst e1 e2;rw[he];exact ih ⟨by simpa using q.1,fun i a b ha hb=>q.2 (i+1) a b (by simpa using ha) (by simpa using hb)⟩ ho
  ·simp at ho
theorem zG(r:HR s F g h){o:BU}{vals vals':List AV}{v:AV}(q:aX s g.next F h vals vals')(hc:CR (.r o)=true)(hp:rV o vals g=some v):∃v',rI o vals' h=some v'∧Rel s g.next F h v v':=by
 cases o with
 |cP=>
  obtain⟨x,rfl,hx⟩:=eF (show l1 vals _=some v from hp);obtain⟨y,rfl,hy⟩:=q.one;split at hx
  ·cases hy with
   |fp g1 g2 g3 g4 g5=>
    have hl:=(List.getElem?_eq_some_iff.1 hx).1;have:=List.getElem?_eq_getElem (l:=_) (i:=_) (Nat.lt_of_lt_of_le (Nat.add_lt_add_left hl _) g4);subst g3;exact⟨_,by simp only[rI];rw[rq g2];exact this,g5 _ _ _ hx this⟩
  ·cases hy with
   |ptr hb=>
    obtain⟨v',h1,h2⟩:=yg r hx;exact⟨v',h1,h2⟩
  ·simp at hx
 |bt k=>
  obtain⟨x,rfl,hx⟩:=eF (show l1 vals _=some v from hp);obtain⟨y,rfl,hy⟩:=q.one;split at hx
  ·rename_i cs o;cases hy with
   |@fp _ _ b _ base vs wr es g1 g2 g3 g4 g5=>
    cases hb:Nat.ble (o+k) cs.length with
    |false=>simp[hb] at hx
    |true=>
     simp only[hb,cond_true,Option.some.injEq] at hx;subst hx g3;have hle:=Nat.le_of_ble_eq_true hb;refine⟨.agg ((vs.drop (base+o)).take k),by simp only[rI,ez g2 (show base+o+k≤vs.length by omega),Option.map_some],?_⟩;refine .agg (by simp only[List.length_take,List.length_drop];omega) ?_;intro i a b ha hb;rw[List.getElem?_take] at ha hb;split at ha
     ·rw[if_pos ‹_›,List.getElem?_drop] at hb;rw[List.getElem?_drop] at ha;exact g5 _ _ _ ha (by rw[←hb];congr 1;omega)
     ·simp at ha
  ·cases hy with
   |ptr hb=>
    simp only[Option.map_eq_some_iff] at hx;obtain⟨cs,hcs,rfl⟩:=hx;obtain⟨cs',h1,h2⟩:=kO r hcs;exact⟨.agg cs',by simp only[rI,h1,Option.map_some],.agg h2.1 h2.2⟩
  ·simp at hx
 |lookup ok z=>
  have hz:Rel s g.next F h z z:=.dU (by simpa[CR] using hc);have iA:rI (.lookup ok z) vals g=some v:=hp;unfold rI at iA;split at iA<;>rename_i heq<;>try(simp at heq;done)
  ·rename_i ok' z' b k;simp only[BU.lookup.injEq] at heq;obtain⟨rfl,rfl⟩:=heq;obtain⟨x',y',rfl,h1,h2⟩:=q.two;cases h1 with
   |map hb=>
    split at iA
    ·rename_i es _ _ hg;obtain⟨y,hy,zh⟩:=r.bH _ _ hg;cases zh with
     |map OG=>
      simp only[rI,hy];split at iA
      ·rename_i w hw;cases iA
       obtain⟨o',ho',hm⟩:=oU h2 OG hw;rw[ho'];cases o' with
       |none=>exact hm.elim
       |some w'=>
        refine⟨_,rfl,?_⟩;cases ok
        ·exact hm
        ·have:=aX.cons hm (aX.cons (x:=.bool true) .bool .nil);exact .dO this.1 this.2
      ·rename_i hw;cases iA
       obtain⟨o',ho',hm⟩:=oU h2 OG hw;rw[ho'];cases o' with
       |some w'=>exact hm.elim
       |none=>
        refine⟨_,rfl,?_⟩;cases ok
        ·exact hz
        ·have:=aX.cons hz (aX.cons (x:=.bool false) .bool .nil);exact .dO this.1 this.2
      ·simp at iA
    ·simp at iA
  ·rename_i ok' z' k;simp only[BU.lookup.injEq] at heq;obtain⟨rfl,rfl⟩:=heq;obtain⟨x',y',rfl,h1,h2⟩:=q.two;cases h1
   cases iA
   refine⟨_,rfl,?_⟩;cases ok
   ·exact hz
   ·have:=aX.cons hz (aX.cons (x:=.bool false) .bool .nil);exact .dO this.1 this.2
  ·simp at iA
 |toStr=>
  obtain⟨x,rfl,hx⟩:=eF (show l1 vals _=some v from hp);obtain⟨y,rfl,hy⟩:=q.one;split at hx
  ·rename_i k l;simp only[Option.map_eq_some_iff] at hx;obtain⟨t,ht,rfl⟩:=hx;have jn:=pK ht;have hsz:aL 1 l=true:=by
    refine jP.2 fun i x hx=>?_;have:=iN jn hx;have hint:∀(l:List AV) (t:List UInt8),cI l=some t→∀(i:Nat) (x:AV),l[i]?=some x→x.cells.length=1:=by
     intro l;induction l with
     |nil=>intro t _ i x hx;simp at hx
     |cons y l ih=>
      intro t ht i x hx;cases y with
      |int k m=>
       cases k<;>simp only[cI,Option.map_eq_some_iff] at ht<;>try(simp at ht;done)
       obtain⟨t',h1,_⟩:=ht;cases i with
       |zero=>simp at hx;subst hx;rfl
       |succ i=>exact ih t' h1 i x (by simpa using hx)
      |_=>simp[cI] at ht
    exact hint l t ht i x hx
   obtain⟨new',h1,h2⟩:=pF r (size:=1) (k:=l.length) (new:=ak l) hy (by simp only[eY,hsz,cond_true]);have hfl:ak l=l:=by
    refine List.ext_getElem? fun i=>?_;have hg:=jR hsz;cases Sf:(ak l)[i]? with
    |none=>
     have:=List.getElem?_eq_none_iff.1 Sf;rw[List.getElem?_eq_none (by rw[hg.1] at this;omega)]
    |some c=>
     obtain⟨i',x,j,a1,a2,a3⟩:=hg.2 i c Sf;have hone:=cX hsz a1;have hj:=(List.getElem?_eq_some_iff.1 a2).1;have hj0:j=0:=by omega
     subst hj0;have hi:i=i':=by omega
     subst hi;rw[a1];have Se:=iN jn a1;have hint:∀(l:List AV) (t:List UInt8),cI l=some t→∀(i:Nat) (x:AV),l[i]?=some x→x.cells=[x]:=by
      intro l;induction l with
      |nil=>intro t _ i x hx;simp at hx
      |cons y l ih=>
       intro t ht i x hx;cases y with
       |int k m=>
        cases k<;>simp only[cI,Option.map_eq_some_iff] at ht<;>try(simp at ht;done)
        obtain⟨t',h1,_⟩:=ht;cases i with
        |zero=>simp at hx;subst hx;rfl
        |succ i=>exact ih t' h1 i x (by simpa using hx)
       |_=>simp[cI] at ht
     rw[hint l t ht i x a1] at a2;simp at a2;rw[a2]
   rw[hfl] at h2;have Ae:=h2.iK jn;subst Ae;cases hy with
   |iJ=>simp only[cI,Option.some.injEq] at ht;subst ht;exact⟨_,rfl,.str⟩
   |xW=>simp only[cI,Option.some.injEq] at ht;subst ht;exact⟨_,rfl,.str⟩
   |fz=>
    simp only[aP,Nat.mul_one,Option.map_eq_some_iff,Prod.mk.injEq] at h1;obtain⟨cs,hcs,hlen,rfl⟩:=h1;exact⟨.str t,by simp only[rI,hcs,ht,Option.map_some],.str⟩
  ·unfold rI at hx;split at hx<;>rename_i heq hne<;>try(simp at heq;done)
   ·cases hx
    rename_i Z0;simp only[List.cons.injEq,and_true] at hne;subst hne;cases hy
    exact⟨_,rfl,.str⟩
   ·simp only[List.cons.injEq,and_true] at hne;subst hne;cases hy
   ·simp only[List.cons.injEq,and_true] at hne;subst hne;cases hx
    cases hy
    exact⟨_,rfl,.str⟩
   ·simp only[List.cons.injEq,and_true] at hne;subst hne;split at hx
    ·rename_i cs hcs;simp only[Option.map_eq_some_iff] at hx;obtain⟨t,ht,rfl⟩:=hx;cases hy with
     |sl hb=>
      obtain⟨cs',h1,h2⟩:=kO r hcs;rw[h2.iK (pK ht)] at h1;exact⟨.str t,by simp only[rI,h1,ht,Option.map_some],.str⟩
    ·simp at hx
   ·simp at hx
 |HC=>
  have iA:rI .HC vals g=some v:=hp;unfold rI at iA;split at iA<;>rename_i heq<;>try(simp at heq;done)
  ·obtain⟨y,rfl,hy⟩:=q.one;cases hy
   cases iA
   exact⟨_,rfl,.int⟩
  ·obtain⟨y,rfl,hy⟩:=q.one;cases hy with
   |map hb=>
    split at iA
    ·rename_i es _ _ hg;obtain⟨y,OW,zh⟩:=r.bH _ _ hg;cases zh with
     |map OG=>
      cases iA
      refine⟨.int .i64 es.length,?_,.int⟩;simp only[rI,OW];rw[OG.1]
    ·simp at iA
  ·simp at iA
 |entry=>simp[rV] at hp
end
end Ads
end Go.Proofs.YtmnolnoeibhjgaaGreat
