/-
  Arguments that are read as data, as values of Vs; what a call of Vs with them is in the model.
-/
import Derived.Test.YtmnolnoeibhjgaaGreatVsLoop
import Derived.ChangeArms
import Derived.OpenShut
import Derived.ProofKit
import Derived.WalkKit
set_option linter.unusedVariables false
set_option linter.unusedSimpArgs false
namespace Go.Proofs.YtmnolnoeibhjgaaGreat
namespace Ads
def DO(P:Program):List Field→Nat→Nat→Bool
 |[],o,n=>Nat.beq o n
 |f::l,o,n=>Nat.beq f.offset o&&DO P l (o+P.cellsOf f.type) n
def eH(P:Program):Nat→TypeId→Bool
 |0,_=>false
 |m+1,t=>match P.underlying t with
  |some .bool|some (.int _)|some .string=>true
  |some (.slice e)=>Nat.ble 1 (P.cellsOf e)&&eH P m e
  |some (.struct fs)=>DO P fs.toList 0 (P.cellsOf t)&&fs.toList.all fun f=>eH P m f.type
  |some (.array n e)=>Nat.beq (P.cellsOf t) (n*P.cellsOf e)&&eH P m e
  |_=>false
inductive dc(P:Program):TypeId→AV→Prop where
 |bool {t b}:P.underlying t=some .bool→dc P t (.bool b)
 |int {t k n}:P.underlying t=some (.int k)→(Lit.int k n).wf=true→dc P t (.int k n)
 |str {t:TypeId} {s:List UInt8}:P.underlying t=some .string→s.length≤reachBytes→dc P t (.str s)
 |slice {t e:TypeId} {k:Nat} {l:List AV}:P.underlying t=some (.slice e)→k≤3→(k=3→l=[])→l.length*P.bytesOf e≤reachBytes→aL (P.cellsOf e) l=true→(∀x,x∈l→dc P e x)→dc P t (.fz k l)
 |struct {t:TypeId} {fs:Array Field} {cs ys:List AV}:P.underlying t=some (.struct fs)→cs.length=P.cellsOf t→ys.length=fs.size→
   (∀(i:Nat) (f:Field) (y:AV),fs[i]?=some f→ys[i]?=some y→dc P f.type y)→
   (∀(i:Nat) (f:Field) (y:AV),fs[i]?=some f→ys[i]?=some y→y.cells=(cs.drop f.offset).take (P.cellsOf f.type))→dc P t (.agg cs)
 |array {t e:TypeId} {n:Nat} {ys:List AV}:P.underlying t=some (.array n e)→ys.length=n→aL (P.cellsOf e) ys=true→(∀y,y∈ys→dc P e y)→dc P t (.agg (ak ys))
section
variable {P:Program} {W:World} {H0:Nat}
structure Rd(P:Program)(H0:Nat)(W:World)(h:Heap)(r:cG):Prop where
 inv:Inv P H0 r (fun b=>b<h.next) h W
 ro:∀b,h.wr b=false
structure Ex(h:Heap)(r:cG)(h':Heap)(r':cG):Prop where
 next:h.next≤h'.next
 get:∀b,b<h.next→h'.get b=h.get b
 Pq:∀b,b<h.next→r' b=r b
theorem Ex.refl(h:Heap)(r:cG):Ex h r h r:=⟨Nat.le_refl _,fun _ _=>rfl,fun _ _=>rfl⟩
theorem Ex.trans{h h1 h2:Heap}{r r1 r2:cG}(x:Ex h r h1 r1)(y:Ex h1 r1 h2 r2):Ex h r h2 r2:=
 ⟨Nat.le_trans x.next y.next,fun b hb=>(y.get b (Nat.lt_of_lt_of_le hb x.next)).trans (x.get b hb),fun b hb=>(y.Pq b (Nat.lt_of_lt_of_le hb x.next)).trans (x.Pq b hb)⟩
abbrev yQ(h:Heap):=aX id 0 (fun b=>b<h.next) h
theorem yQ.ex{h h':Heap}{r r':cG}{l l':List AV}(q:yQ h l l')(x:Ex h r h' r'):yQ h' l l':=
 q.mono (fun _ _=>rfl) (Nat.le_refl _) (fun b hb=>Nat.lt_of_lt_of_le hb x.next) (fun b hb=>x.get b hb)
theorem Bv{h h':Heap}{r r':cG}{l:List AV}(x:Ex h r h' r')(hd:bl (fun b=>b<h.next) l):aq r' l=aq r l:=ep (fun b hb=>x.Pq b hb) l hd
theorem yR{h h':Heap}{r r':cG}{l:List AV}(x:Ex h r h' r')(hd:bl (fun b=>b<h.next) l):bl (fun b=>b<h'.next) l:=jy (fun b hb=>Nat.lt_of_lt_of_le hb x.next) l hd
theorem rS{D:Dom}:∀{l m:List AV},bl D l→bl D m→bl D (l++m)
 |[],_,_,h=>h
 |x::l,m,h1,h2=>⟨h1.1,rS h1.2 h2⟩
theorem yC(r:cG)(l m:List AV):aq r (l++m)=aq r l++aq r m:=by simp[cH]
theorem pS:∀{l m:List AV},e9 l=true→e9 m=true→e9 (l++m)=true
 |[],_,_,h=>h
 |x::l,m,h1,h2=>by simp only[e9,Bool.and_eq_true] at h1;simp only[List.cons_append,e9,h1.1,Bool.true_and];exact pS h1.2 h2
theorem nF{z:Nat}:∀{l:List AV},aL z l=true→∀{i j:Nat} {x c:AV},l[i]?=some x→x.cells[j]?=some c→(ak l)[i*z+j]?=some c
 |[],_,i,j,x,c,hx,_=>by simp at hx
 |y::l,hz,0,j,x,c,hx,hc=>by
  simp at hx;subst hx;have hj:=(List.getElem?_eq_some_iff.1 hc).1;rw[show ak (y::l)=y.cells++ak l by simp[ak],Nat.zero_mul,Nat.zero_add,List.getElem?_append_left hj];exact hc
 |y::l,hz,i+1,j,x,c,hx,hc=>by
  simp only[aL,Bool.and_eq_true] at hz;have hy:=Nat.eq_of_beq_eq_true hz.1;rw[show ak (y::l)=y.cells++ak l by simp[ak],List.getElem?_append_right (by rw[hy,Nat.succ_mul];omega)];have:=nF hz.2 (by simpa using hx) hc;rw[←this]
  congr 1
  rw[hy,Nat.succ_mul];omega
theorem Rd.more{h:Heap}{r:cG}(q:Rd P H0 W h r){a:Addr}{c:Array Value}{t:TypeId}{fr:Nat×Nat}(ha:W.heap[a.block]?=some (.cells c t fr)){vs:List AV}(hd:bl (fun b=>b<h.next) vs)
  (hv:∀(i:Nat) (v:AV),vs[i]?=some v→c[a.off+i]?=some (real r v)):
  Rd P H0 W (h.new (.cells vs false 0)) (fun b=>if b=h.next then⟨a.block,a.off,0⟩ else r b)∧Ex h r (h.new (.cells vs false 0)) (fun b=>if b=h.next then⟨a.block,a.off,0⟩ else r b):=by
 have hex:Ex h r (h.new (.cells vs false 0)) (fun b=>if b=h.next then⟨a.block,a.off,0⟩ else r b):=
  ⟨Nat.le_succ _,fun b hb=>by rw[Heap.bT,if_neg (by omega)],fun b hb=>by rw[if_neg (by omega)]⟩
 have hro:∀b,(h.new (.cells vs false 0)).wr b=false:=by
  intro b;simp only[Heap.wr,Heap.bT];by_cases hb:b=h.next
  ·rw[if_pos hb]
  ·rw[if_neg hb];exact q.ro b
 refine⟨⟨⟨fun b hb=>hb,?_,q.inv.low,?_,?_⟩,hro⟩,hex⟩
 ·intro b hb;have hb':h.next+1≤b:=hb;rw[Heap.bT,if_neg (by omega)];exact q.inv.top b (by omega)
 ·intro b x hb hx;rw[Heap.bT] at hx;split at hx
  ·rename_i he;cases hx
   subst he;simp only[if_true];refine⟨c,t,fr,ha,fun i v hi=>?_,fun e=>by simp at e⟩;have I4:v.aW fun b=>b<h.next:=(aN _ _).1 hd v (List.mem_of_getElem? hi);refine⟨?_,cO (fun b hb=>Nat.lt_succ_of_lt hb) v I4⟩;rw[hv i v hi]
   congr 1
   refine(cn (fun b hb=>?_) v I4).symm;rw[if_neg (by omega)]
  ·rename_i he;have hlt:b<h.next:=by have:b<h.next+1:=hb;omega
   simp only[if_neg he];exact bR (q.inv.bH b x hlt hx) (fun b hb=>Nat.lt_succ_of_lt hb) (fun b hb=>by rw[if_neg (by omega)]) rfl
 ·intro b b' _ _ _ hw;rw[hro b] at hw;simp at hw
variable {H:Type} {enc:TypeId×Value→H}
theorem qW{w:World}{a:Addr}{n:Nat}{cs:List Value}(h:w.cells? 0 a n=some cs):cs.length=n∧∀i,i<n→w.cell? (a.add i)=cs[i]?:=by
 simp only[World.cells?,Nat.zero_le,if_true] at h;refine⟨by simpa using mapM_some_length h,fun i hi=>mapM_some_get h i i (by simp[hi])⟩
theorem Dn(a:Addr)(h:a.spot=none)(n:Nat):a.add n=⟨a.block,a.off+n,none⟩:=by
 obtain⟨b,o,s⟩:=a;simp only at h;subst h;simp only[Addr.add];split
 ·rename_i hn;subst hn;rfl
 ·rfl
theorem xM{w:World}{a:Addr}{v:Value}(h:w.cell? a=some v):a.spot=none∧∃c t fr,w.heap[a.block]?=some (.cells c t fr)∧c[a.off]?=some v:=by
 simp only[World.cell?] at h;split at h
 ·rename_i c t fr hc;split at h
  ·simp at h
  ·rename_i hs;exact⟨by simpa using hs,c,t,fr,hc,h⟩
 ·simp at h
theorem lN{e:TypeId}:∀{l:List (DataW H)},(DataW.weightsAll P e l).all (· ≤reachBytes)=true→∀{d:DataW H},d∈l→(d.weights P e).all (· ≤reachBytes)=true
 |[],_,d,hd=>by simp at hd
 |x::l,h,d,hd=>by
  simp only[DataW.weightsAll,List.all_append,Bool.and_eq_true] at h;rcases List.mem_cons.1 hd with rfl|hd
  ·exact h.1
  ·exact lN h.2 hd
theorem ow:∀{ts:List TypeId} {l:List (DataW H)},(DataW.weightsEach P ts l).all (· ≤reachBytes)=true→∀{i:Nat} {t:TypeId} {d:DataW H},ts[i]?=some t→l[i]?=some d→(d.weights P t).all (· ≤reachBytes)=true
 |[],l,_,i,t,d,ht,_=>by simp at ht
 |t::ts,[],_,i,u,d,_,hd=>by simp at hd
 |t::ts,x::l,h,0,u,d,ht,hd=>by
  simp only[DataW.weightsEach,List.all_append,Bool.and_eq_true] at h;simp at ht hd;subst ht hd;exact h.1
 |t::ts,x::l,h,i+1,u,d,ht,hd=>by
  simp only[DataW.weightsEach,List.all_append,Bool.and_eq_true] at h;exact ow h.2 (by simpa using ht) (by simpa using hd)
theorem Du:∀{l:List AV},e9 l=true→e9 (ak l)=true
 |[],_=>rfl
 |x::l,h=>by
  simp only[e9,Bool.and_eq_true] at h;exact pS (gB h.1) (Du h.2)
theorem Fa(n:Nat):∀(m:Nat) (t:TypeId) (cs:List Value) (y:DataW H×List MemPlace),DataW.trod enc P W 0 (fun _=>true) true n t cs=some y→(y.1.weights P t).all (· ≤reachBytes)=true→eH P m t=true→
  ∀(h:Heap) (r:cG),Rd P H0 W h r→∃(h':Heap) (r':cG) (x:AV) (V':List AV),Rd P H0 W h' r'∧Ex h r h' r'∧yQ h' x.cells V'∧aq r' V'=cs∧bl (fun b=>b<h'.next) V'∧dc P t x∧x.cl=true:=by
 induction n with
 |zero=>intro m t cs y hy;simp[DataW.trod] at hy
 |succ n ih=>
  intro m t cs y hy qA hp h r q;cases m with
  |zero=>simp[eH] at hp
  |succ m=>
  cases hu:P.underlying t with
  |none=>simp[eH,hu] at hp
  |some d=>
  cases d with
  |bool=>
   obtain⟨b,rfl,_⟩:=DataW.trod_bool hu hy;exact⟨h,r,.bool b,[.bool b],q,.refl _ _,.cons .bool .nil,by simp[aq,real],by simp[bl,AV.aW],.bool hu,rfl⟩
  |int k=>
   obtain⟨i,rfl,_,hw⟩:=DataW.trod_int hu hy;exact⟨h,r,.int k i,[.int k i],q,.refl _ _,.cons .int .nil,by simp[aq,real],by simp[bl,AV.aW],.int hu hw,rfl⟩
  |string=>
   obtain⟨s,rfl,hys,hs⟩:=DataW.trod_string hu hy;rw[hys] at qA;simp only[DataW.weights,List.all_cons,List.all_nil,Bool.and_true,decide_eq_true_eq] at qA;exact⟨h,r,.str s.data.toList,[.str s.data.toList],q,.refl _ _,.cons .str .nil,by simp[aq,real],by simp[bl,AV.aW],.str hu qA,rfl⟩
  |slice e=>
   simp only[eH,hu,Bool.and_eq_true] at hp;have hz:=Nat.le_of_ble_eq_true hp.1;rcases DataW.trod_slice hu hy with⟨rfl,_⟩|⟨a,len,cap,elems,rest,n',hn,rfl,OW,_,hle,Z2,hlen,hel,R7,_⟩
   ·exact⟨h,r,.fz 3 [],[.az],q,.refl _ _,.cons .iJ .nil,by simp[aq,real],by simp[bl,AV.aW],.slice hu (Nat.le_refl _) (fun _=>rfl) (by simp) rfl (fun x hx=>by simp at hx),rfl⟩
   ·have hn':n=n':=by omega
    subst hn';rw[OW] at qA;simp only[DataW.weights,hu,List.all_cons,List.all_append,Bool.and_eq_true,decide_eq_true_eq,List.length_map] at qA;obtain⟨Sc,Yp,_⟩:=qA;have hlb:len*P.bytesOf e≤reachBytes:=Nat.le_trans (Nat.mul_le_mul_right _ (by omega)) Sc;by_cases hc0:cap=0
    ·subst hc0;have I1:len=0:=by omega
     subst I1;exact⟨h,r,.fz 1 [],[.fE a],q,.refl _ _,.cons (.xW (by omega)) .nil,by simp[aq,real],by simp[bl,AV.aW],.slice hu (by omega) (fun _=>rfl) (by simp) rfl (fun x hx=>by simp at hx),rfl⟩
    ·
     have Ot:∃cs0,W.cells? 0 (a.add (0*P.cellsOf e)) (P.cellsOf e)=some cs0:=by
      by_cases I1:len=0
      ·obtain⟨h1,h2⟩:=R7 rfl;have:=h2 0 (by omega);rw[I1,Nat.zero_add] at this;have vI:0<rest.length:=by omega
       rw[List.getElem?_eq_getElem vI] at this;simp only[Option.bind_eq_some_iff] at this;obtain⟨cs0,h3,_⟩:=this;exact⟨cs0,h3⟩
      ·have:=hel 0 (by omega);rw[List.getElem?_eq_getElem (by omega)] at this;simp only[Option.bind_eq_some_iff] at this;obtain⟨cs0,h3,_⟩:=this;exact⟨cs0,h3⟩
     obtain⟨cs0,h0⟩:=Ot;have Zi:=(qW h0).2 0 (by omega);rw[Nat.zero_mul,show(a.add 0).add 0=a by simp[Addr.add],List.getElem?_eq_getElem (by rw[(qW h0).1];omega)] at Zi;obtain⟨Hq,c,ct,fr,GU,_⟩:=xM Zi;have step:∀k,k≤len→∃h' r' l vs,Rd P H0 W h' r'∧Ex h r h' r'∧l.length=k∧aL (P.cellsOf e) l=true∧yQ h' (ak l) vs∧bl (fun b=>b<h'.next) vs∧
       (∀(i:Nat) (v:AV),vs[i]?=some v→c[a.off+i]?=some (real r' v))∧(∀x,x∈l→dc P e x)∧e9 l=true:=by
      intro k;induction k with
      |zero=>intro _;exact⟨h,r,[],[],q,.refl _ _,rfl,rfl,.nil,trivial,fun i v hi=>by simp at hi,fun x hx=>by simp at hx,rfl⟩
      |succ k OX=>
       intro hk;obtain⟨h1,r1,l,vs,g1,g2,g3,g4,g5,g6,g7,g8,g9⟩:=OX (by omega);have zk:=hel k (by omega);rw[List.getElem?_eq_getElem (by omega)] at zk;simp only[Option.bind_eq_some_iff] at zk;obtain⟨Y3,hk2,lS⟩:=zk;obtain⟨h2,r2,x,V',f1,f2,f3,f4,f5,f6,f7⟩:=ih m e Y3 _ lS (lN Yp (List.mem_map.2 ⟨_,List.getElem_mem _,rfl⟩)) hp.2 h1 r1 g1;obtain⟨ck1,ck2⟩:=qW hk2;have Qq:x.cells.length=P.cellsOf e:=by
        rw[f3.1,←ck1,←f4];simp[cH]
       have hvl:vs.length=k*P.cellsOf e:=by
        rw[←g5.1,(jR g4).1,g3]
       refine⟨h2,r2,l++[x],vs++V',f1,g2.trans f2,by simp[g3],?_,?_,rS (yR f2 g6) f5,?_,?_,pS g9 (by simp[e9,f7])⟩
       ·refine jP.2 fun i u hu=>?_;by_cases hi:i<l.length
        ·rw[List.getElem?_append_left hi] at hu;exact cX g4 hu
        ·rw[List.getElem?_append_right (by omega)] at hu;have:i-l.length=0:=by
          have:=(List.getElem?_eq_some_iff.1 hu).1;simp at this;omega
         rw[this] at hu;simp at hu;subst hu;exact Qq
       ·have:ak (l++[x])=ak l++x.cells:=by simp[ak]
        rw[this];exact(g5.ex f2).append f3
       ·intro i v hi;by_cases hlt:i<vs.length
        ·rw[List.getElem?_append_left hlt] at hi;rw[g7 i v hi]
         congr 1
         exact(cn (fun b hb=>f2.Pq b hb) v ((aN _ _).1 g6 v (List.mem_of_getElem? hi))).symm
        ·rw[List.getElem?_append_right (by omega)] at hi;have hj:=(List.getElem?_eq_some_iff.1 hi).1;have hjl:i-vs.length<P.cellsOf e:=by rw[←Qq,f3.1];exact hj
         have BY:=ck2 (i-vs.length) hjl;rw[Dn a Hq,Dn _ rfl] at BY;have Rw:Y3[i-vs.length]?=some (real r2 v):=by rw[←f4,cH,List.getElem?_map,hi];rfl
         rw[Rw] at BY;obtain⟨_,c',ct',fr',jC,eE⟩:=xM BY;simp only at jC eE;rw[GU] at jC;cases jC
         rw[←eE]
         congr 1
         omega
       ·intro u hu;rcases List.mem_append.1 hu with hu|hu
        ·exact g8 u hu
        ·simp at hu;subst hu;exact f6
     obtain⟨h1,r1,l,vs,g1,g2,g3,g4,g5,g6,g7,g8,g9⟩:=step len (Nat.le_refl _);obtain⟨m1,m2⟩:=g1.more GU g6 g7;have hfl:=jR g4;have hvl:vs.length=l.length*P.cellsOf e:=by rw[←g5.1,hfl.1]
     refine⟨_,_,.fz 1 l,[.sl h1.next 0 len cap false],m1,g2.trans m2,.cons ?_ .nil,?_,?_,.slice hu (by omega) (fun h=>by omega) (by rw[g3];exact hlb) g4 g8,by simpa[AV.cl] using g9⟩
     ·have cu:(h1.new (.cells vs false 0)).get h1.next=some (.cells vs false 0):=by rw[Heap.bT,if_pos rfl]
      refine .fz (o:=0) (z:=P.cellsOf e) (show h1.next<h1.next+1 by omega) cu g4 g3.symm (by omega) hle (by omega) (fun _=>rfl) (fun h=>by omega) ?_;intro i x j cc y hx hc hy;rw[Nat.zero_add] at hy;exact(g5.ex m2).2 _ _ _ (nF g4 hx hc) hy
     ·simp only[aq,real,if_true,Nat.add_zero,cond_false]
      congr 3
      obtain⟨ab,ao,as⟩:=a;simp only at Hq;subst Hq;rfl
     ·simp only[bl,AV.aW,and_true];show h1.next<h1.next+1;omega
  |struct fs=>
   simp only[eH,hu,Bool.and_eq_true] at hp;obtain⟨xs,n',hn,OW,ju,Qq,hf⟩:=DataW.trod_struct hu hy;have hn':n=n':=by omega
   subst hn';rw[OW] at qA;simp only[DataW.weights,hu] at qA;have hfl:∀f,f∈fs.toList→∃y,DataW.trod enc P W 0 (fun _=>true) true n f.type ((cs.drop f.offset).take (P.cellsOf f.type))=some y∧(y.1.weights P f.type).all (· ≤reachBytes)=true:=by
    intro f hf';obtain⟨i,hi,rfl⟩:=List.getElem_of_mem hf';have h1:=hf i fs[i] (by simp[Array.getElem?_eq_getElem (by simpa using hi:i<fs.size)]);rw[List.getElem?_eq_getElem (by rw[Qq];simpa using hi)] at h1;refine⟨_,by simpa using h1,ow (i:=i) qA (by rw[List.getElem?_map,List.getElem?_eq_getElem hi];rfl) (by rw[List.getElem?_map,List.getElem?_eq_getElem (by rw[Qq];simpa using hi)];rfl)⟩
   have fields:∀(fl:List Field) (o:Nat),DO P fl o (P.cellsOf t)=true→(∀f,f∈fl→eH P m f.type=true)→(∀f,f∈fl→∃y,DataW.trod enc P W 0 (fun _=>true) true n f.type ((cs.drop f.offset).take (P.cellsOf f.type))=some y∧(y.1.weights P f.type).all (· ≤reachBytes)=true)→
     ∀(h:Heap) (r:cG),Rd P H0 W h r→∃(h':Heap) (r':cG) (V V' ys:List AV),Rd P H0 W h' r'∧Ex h r h' r'∧yQ h' V V'∧aq r' V'=cs.drop o∧bl (fun b=>b<h'.next) V'∧e9 V=true∧o≤P.cellsOf t∧
      ys.length=fl.length∧∀(i:Nat) (f:Field) (y:AV),fl[i]?=some f→ys[i]?=some y→o≤f.offset∧dc P f.type y∧y.cells=(V.drop (f.offset-o)).take (P.cellsOf f.type):=by
    intro fl;induction fl with
    |nil=>
     intro o ho _ _ h r q;have ho':o=P.cellsOf t:=Nat.eq_of_beq_eq_true ho;exact⟨h,r,[],[],[],q,.refl _ _,.nil,by rw[List.drop_eq_nil_of_le (by omega)];rfl,trivial,rfl,by omega,rfl,fun i f y hf=>by simp at hf⟩
    |cons f fl Si=>
     intro o ho jn Ul h r q;simp only[DO,Bool.and_eq_true] at ho;have hfo:=Nat.eq_of_beq_eq_true ho.1;obtain⟨yf,hyf,hyw⟩:=Ul f List.mem_cons_self;obtain⟨h1,r1,x,V',f1,f2,f3,f4,f5,f6,f7⟩:=ih m f.type _ yf hyf hyw (jn f List.mem_cons_self) h r q;obtain⟨h2,r2,U,U',ys,u1,u2,u3,u4,u5,u6,u7,u9,u8⟩:=Si (o+P.cellsOf f.type) ho.2 (fun f hf=>jn f (List.mem_cons_of_mem _ hf)) (fun f hf=>Ul f (List.mem_cons_of_mem _ hf)) h1 r1 f1;have ZK:x.cells.length=P.cellsOf f.type:=by
      rw[f3.1];have:=congrArg List.length f4;simp only[cH,List.length_map,List.length_take,List.length_drop] at this;omega
     refine⟨h2,r2,x.cells++U,V'++U',x::ys,u1,f2.trans u2,(f3.ex u2).append u3,?_,rS (yR u2 f5) u5,pS (gB f7) u6,by omega,by simp[u9],?_⟩
     ·rw[yC,Bv u2 f5,f4,u4,hfo,←List.drop_drop,List.take_append_drop]
     ·intro i g y hg hy;cases i with
      |zero=>
       simp at hg hy;subst hg hy;refine⟨by omega,f6,?_⟩;rw[hfo,Nat.sub_self,List.drop_zero,List.take_append_of_le_length (by omega),List.take_of_length_le (by omega)]
      |succ i=>
       obtain⟨g1,g2,g3⟩:=u8 i g y (by simpa using hg) (by simpa using hy);refine⟨by omega,g2,?_⟩;rw[g3,show g.offset-o=x.cells.length+(g.offset-(o+P.cellsOf f.type)) by omega,←List.drop_drop,List.drop_left]
   obtain⟨h1,r1,V,V',ys,g1,g2,g3,g4,g5,g6,_,g9,g8⟩:=fields fs.toList 0 hp.1 (fun f hf=>List.all_eq_true.1 hp.2 f hf) hfl h r q;refine⟨h1,r1,.agg V,V',g1,g2,g3,by rw[g4,List.drop_zero],g5,.struct (ys:=ys) hu ?_ (by simpa using g9) ?_ ?_,by simpa[AV.cl] using g6⟩
   ·rw[g3.1,←ju,←List.drop_zero (l:=cs),←g4];simp[cH]
   ·intro i f y hi hy;exact(g8 i f y (by simpa using hi) hy).2.1
   ·intro i f y hi hy;simpa using(g8 i f y (by simpa using hi) hy).2.2
  |array n0 e=>
   simp only[eH,hu,Bool.and_eq_true] at hp;have hz:=Nat.eq_of_beq_eq_true hp.1;obtain⟨xs,n',hn,OW,ju,Qq,hf⟩:=DataW.trod_array hu hy;have hn':n=n':=by omega
   subst hn';rw[OW] at qA;simp only[DataW.weights,hu] at qA;have step:∀k,k≤n0→∃h' r' l vs,Rd P H0 W h' r'∧Ex h r h' r'∧l.length=k∧aL (P.cellsOf e) l=true∧yQ h' (ak l) vs∧bl (fun b=>b<h'.next) vs∧
     aq r' vs=cs.take (k*P.cellsOf e)∧(∀x,x∈l→dc P e x)∧e9 l=true:=by
    intro k;induction k with
    |zero=>intro _;exact⟨h,r,[],[],q,.refl _ _,rfl,rfl,.nil,trivial,by simp[aq],fun x hx=>by simp at hx,rfl⟩
    |succ k OX=>
     intro hk;obtain⟨h1,r1,l,vs,g1,g2,g3,g4,g5,g6,g7,g8,g9⟩:=OX (by omega);have zk:=hf k (by omega);rw[List.getElem?_eq_getElem (by omega)] at zk;obtain⟨h2,r2,x,V',f1,f2,f3,f4,f5,f6,f7⟩:=ih m e _ _ zk (lN qA (List.mem_map.2 ⟨_,List.getElem_mem _,rfl⟩)) hp.2 h1 r1 g1;have hle:(k+1)*P.cellsOf e≤n0*P.cellsOf e:=Nat.mul_le_mul_right _ hk;have uH:(k+1)*P.cellsOf e=k*P.cellsOf e+P.cellsOf e:=Nat.succ_mul _ _;have ZK:x.cells.length=P.cellsOf e:=by
      rw[f3.1];have:=congrArg List.length f4;simp only[cH,List.length_map,List.length_take,List.length_drop] at this;omega
     refine⟨h2,r2,l++[x],vs++V',f1,g2.trans f2,by simp[g3],?_,?_,rS (yR f2 g6) f5,?_,?_,pS g9 (by simp[e9,f7])⟩
     ·refine jP.2 fun i u hu=>?_;by_cases hi:i<l.length
      ·rw[List.getElem?_append_left hi] at hu;exact cX g4 hu
      ·rw[List.getElem?_append_right (by omega)] at hu;have:i-l.length=0:=by
        have:=(List.getElem?_eq_some_iff.1 hu).1;simp at this;omega
       rw[this] at hu;simp at hu;subst hu;exact ZK
     ·have:ak (l++[x])=ak l++x.cells:=by simp[ak]
      rw[this];exact(g5.ex f2).append f3
     ·rw[yC,Bv f2 g6,g7,f4,uH,List.take_add]
     ·intro u hu;rcases List.mem_append.1 hu with hu|hu
      ·exact g8 u hu
      ·simp at hu;subst hu;exact f6
   obtain⟨h1,r1,l,vs,g1,g2,g3,g4,g5,g6,g7,g8,g9⟩:=step n0 (Nat.le_refl _);exact⟨h1,r1,.agg (ak l),vs,g1,g2,g5,by rw[g7,List.take_of_length_le (by omega)],g6,.array hu g3 g4 g8,by simpa[AV.cl] using Du g9⟩
  |_=>simp[eH,hu] at hp
theorem IF{m:Nat}{t:TypeId}{x:AV}{base:Nat}{v:Value}(hp:eH P m t=true)(ht:dc P t x)(hv:Value.okWide P W .any base t v):
  (∃cs vs,x=.agg cs∧v=.agg vs)∨(x.cells=[x]∧v.cells=#[v]):=by
 cases m with
 |zero=>simp[eH] at hp
 |succ m=>
 have hcell:∀(hne:∀fs,P.underlying t≠some (.struct fs)) (RY:∀n e,P.underlying t≠some (.array n e)),v.cells=#[v]:=by
  intro hne RY;unfold Value.okWide at hv;split at hv
  ·rename_i fs hu;exact absurd hu (hne fs)
  ·rename_i n e hu;exact absurd hu (RY n e)
  ·cases v with
   |agg cs=>
    unfold Cell.okWide at hv;split at hv<;>try(rename_i h1;simp at h1;done)
    unfold Cell.ok at hv;split at hv<;>first|exact hv.elim|(rename_i h1;simp at h1;done)|skip
    all_goals (rename_i h1 _;simp at h1)
   |_=>rfl
 cases ht with
 |bool hu=>exact .inr ⟨rfl,hcell (fun fs h=>by rw[hu] at h;simp at h) (fun n e h=>by rw[hu] at h;simp at h)⟩
 |int hu=>exact .inr ⟨rfl,hcell (fun fs h=>by rw[hu] at h;simp at h) (fun n e h=>by rw[hu] at h;simp at h)⟩
 |str hu=>exact .inr ⟨rfl,hcell (fun fs h=>by rw[hu] at h;simp at h) (fun n e h=>by rw[hu] at h;simp at h)⟩
 |slice hu=>exact .inr ⟨rfl,hcell (fun fs h=>by rw[hu] at h;simp at h) (fun n e h=>by rw[hu] at h;simp at h)⟩
 |struct hu=>
  unfold Value.okWide at hv;rw[hu] at hv;obtain⟨vs,rfl,_⟩:=hv;exact .inl ⟨_,vs,rfl,rfl⟩
 |array hu=>
  unfold Value.okWide at hv;rw[hu] at hv;obtain⟨vs,rfl,_⟩:=hv;exact .inl ⟨_,vs,rfl,rfl⟩
theorem yp{base:Nat}:∀(ts:List TypeId) (vs:List Value) (ds:List (DataW H)) (ps:List MemPlace),DataW.TrodAll enc P W 0 (fun _=>true) true ts vs ds ps→(DataW.weightsEach P ts ds).all (· ≤reachBytes)=true→(∀t,t∈ts→eH P 100 t=true)→
  (∀(j:Nat) t v,ts[j]?=some t→vs[j]?=some v→Value.okWide P W .any base t v)→∀(h:Heap) (r:cG),Rd P H0 W h r→
  ∃(h':Heap) (r':cG) (xs as:List AV),Rd P H0 W h' r'∧Ex h r h' r'∧yQ h' xs as∧aq r' as=vs∧bl (fun b=>b<h'.next) as∧e9 xs=true∧xs.length=ts.length∧∀(i:Nat) t x,ts[i]?=some t→xs[i]?=some x→dc P t x
 |[],[],[],ps,_,_,_,_,h,r,q=>⟨h,r,[],[],q,.refl _ _,.nil,rfl,trivial,rfl,rfl,fun i t x hi=>by simp at hi⟩
 |t::ts,v::vs,d::ds,ps,⟨p1,p2,⟨fuel,Ul⟩,hall,_⟩,qA,jn,hok,h,r,q=>by
  simp only[DataW.weightsEach,List.all_append,Bool.and_eq_true] at qA;obtain⟨h1,r1,x,V',f1,f2,f3,f4,f5,f6,f7⟩:=Fa fuel 100 t _ _ Ul qA.1 (jn t List.mem_cons_self) h r q;obtain⟨h2,r2,xs,as,g1,g2,g3,g4,g5,g6,g7,g8⟩:=yp ts vs ds p2 hall qA.2 (fun t ht=>jn t (List.mem_cons_of_mem _ ht)) (fun j t v ht hv=>hok (j+1) t v (by simpa using ht) (by simpa using hv)) h1 r1 f1;have hone:∃w,Rel id 0 (fun b=>b<h1.next) h1 x w∧real r1 w=v∧w.aW fun b=>b<h1.next:=by
   rcases IF (jn t List.mem_cons_self) f6 (hok 0 t v rfl rfl) with⟨cs,cv,rfl,rfl⟩|⟨hx,hv⟩
   ·refine⟨.agg V',.agg f3.1 f3.2,?_,by simpa[AV.aW] using f5⟩;simp only[real,f4];simp[Value.cells]
   ·rw[hx] at f3;obtain⟨w,rfl,hw⟩:=f3.one;refine⟨w,hw,?_,f5.1⟩;rw[hv] at f4;simpa[aq] using f4
  obtain⟨w,w1,w2,w3⟩:=hone;refine⟨h2,r2,x::xs,w::as,g1,f2.trans g2,.cons (w1.mono (fun _ _=>rfl) (Nat.le_refl _) (fun b hb=>Nat.lt_of_lt_of_le hb g2.next) (fun b hb=>g2.get b hb)) g3,?_,⟨cO (fun b hb=>Nat.lt_of_lt_of_le hb g2.next) _ w3,g5⟩,by simp[e9,f7,g6],by simp[g7],?_⟩
  ·simp only[aq];rw[g4,cn (fun b hb=>g2.Pq b hb) w w3,w2]
  ·intro i t' x' ht hx;cases i with
   |zero=>simp at ht hx;subst ht hx;exact f6
   |succ i=>exact g8 i t' x' (by simpa using ht) (by simpa using hx)
 |[],_::_,_,_,h,_,_,_,_,_,_=>by simp[DataW.TrodAll] at h
 |[],[],_::_,_,h,_,_,_,_,_,_=>by simp[DataW.TrodAll] at h
 |_::_,[],_,_,h,_,_,_,_,_,_=>by simp[DataW.TrodAll] at h
 |_::_,_::_,[],_,h,_,_,_,_,_,_=>by simp[DataW.TrodAll] at h
theorem Ie(hl:H0≤W.heap.size):Rd P H0 W ⟨0,.nil⟩ default:=
 ⟨⟨fun b hb=>hb,fun b _=>rfl,hl,fun b x hb _=>absurd hb (Nat.not_lt_zero b),fun b b' hb _ _ _ _=>absurd hb (Nat.not_lt_zero b)⟩,fun b=>rfl⟩
theorem PC.calls{fs:Nat→Option aj}{ms:Nat→String→Option Nat}(sys:kW P fs ms)(codes:∀f af,fs f=some af→eS af.body=true){f:Nat}{xs as:List AV}{v:AV}(hp:PC fs ms f xs v)(hv:v.pl=true)
  {h:Heap}{r:cG}(rd:Rd P W.heap.size W h r)(q:yQ h xs as)(hd:bl (fun b=>b<h.next) as):
  Calls P f (aq r as).toArray W fun e w'=>e=.returned (real default v)∧Kept W w':=by
 obtain⟨_,_,u,g,hb,hf⟩:=hp;have:=GF hf hv;subst this;have vI:HR id (fun b=>b<h.next) ⟨0,.nil⟩ h:=by
  refine⟨fun b _=>rfl,rd.inv.top,fun b hb=>hb,fun b x hx=>?_,fun b c hb=>absurd rfl hb,fun b hb=>absurd rfl hb⟩;have:(none:Option bP)=some x:=hx;simp at this
 obtain⟨s1,F1,h1,w,b1,_,b3⟩:=(hb 0).sim codes id (fun b=>b<h.next) h as vI q;have hw:=b3.iK hv;subst hw;have hs:=(b1.sound sys W.heap.size).1;have:=hs r (fun b=>b<h.next) W 0 rd.inv hd;rw[callsIn_wide] at this;refine this.mono ?_;rintro e w' ⟨r',rfl,hi,hx,A7⟩;have hnw:∀i,i<W.heap.size→w'.heap[i]?=W.heap[i]?:=fun i hi=>hx.frame i hi (fun b _ hb=>by rw[rd.ro b] at hb;simp at hb);refine⟨?_,hx.size,hnw,hx.tape,hx.os,hx.output⟩
 congr 1
 exact cn (D:=fun _=>False) (fun b hb=>hb.elim) _ (CX hv)
end
end Ads
end Go.Proofs.YtmnolnoeibhjgaaGreat
