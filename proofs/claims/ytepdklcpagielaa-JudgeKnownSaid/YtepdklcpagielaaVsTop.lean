/-
  Arguments that are read as data, as values of Vs; what a call of Vs with them is in the model.
-/
import Derived.Test.YtepdklcpagielaaVsLoop
import Derived.ChangeArms
import Derived.OpenShut
import Derived.ProofKit
import Derived.WalkKit
set_option linter.unusedVariables false
set_option linter.unusedSimpArgs false
namespace Go.Proofs.Ytepdklcpagielaa
namespace Ads
def HF(P:Program):List Field→Nat→Nat→Bool
 |[],o,n=>Nat.beq o n
 |f::l,o,n=>Nat.beq f.offset o&&HF P l (o+P.cellsOf f.type) n
def fT(P:Program):Nat→TypeId→Bool
 |0,_=>false
 |m+1,t=>match P.underlying t with
  |some .bool|some (.int _)|some .string=>true
  |some (.slice e)=>Nat.ble 1 (P.cellsOf e)&&fT P m e
  |some (.struct fs)=>HF P fs.toList 0 (P.cellsOf t)&&fs.toList.all fun f=>fT P m f.type
  |some (.array n e)=>Nat.beq (P.cellsOf t) (n*P.cellsOf e)&&fT P m e
  |_=>false
inductive cP(P:Program):TypeId→AV→Prop where
 |bool {t b}:P.underlying t=some .bool→cP P t (.bool b)
 |int {t k n}:P.underlying t=some (.int k)→(Lit.int k n).wf=true→cP P t (.int k n)
 |str {t:TypeId} {s:List UInt8}:P.underlying t=some .string→s.length≤reachBytes→cP P t (.str s)
 |slice {t e:TypeId} {k:Nat} {l:List AV}:P.underlying t=some (.slice e)→k≤3→(k=3→l=[])→l.length*P.bytesOf e≤reachBytes→aW (P.cellsOf e) l=true→(∀x,x∈l→cP P e x)→cP P t (.fz k l)
 |struct {t:TypeId} {fs:Array Field} {cs ys:List AV}:P.underlying t=some (.struct fs)→cs.length=P.cellsOf t→ys.length=fs.size→
   (∀(i:Nat) (f:Field) (y:AV),fs[i]?=some f→ys[i]?=some y→cP P f.type y)→
   (∀(i:Nat) (f:Field) (y:AV),fs[i]?=some f→ys[i]?=some y→y.cells=(cs.drop f.offset).take (P.cellsOf f.type))→cP P t (.agg cs)
 |array {t e:TypeId} {n:Nat} {ys:List AV}:P.underlying t=some (.array n e)→ys.length=n→aW (P.cellsOf e) ys=true→(∀y,y∈ys→cP P e y)→cP P t (.agg (ai ys))
section
variable {P:Program} {W:World} {H0:Nat}
structure Rd(P:Program)(H0:Nat)(W:World)(h:Heap)(r:de):Prop where
 inv:Inv P H0 r (fun b=>b<h.next) h W
 ro:∀b,h.wr b=false
structure Ex(h:Heap)(r:de)(h':Heap)(r':de):Prop where
 next:h.next≤h'.next
 get:∀b,b<h.next→h'.get b=h.get b
 TD:∀b,b<h.next→r' b=r b
theorem Ex.refl(h:Heap)(r:de):Ex h r h r:=⟨Nat.le_refl _,fun _ _=>rfl,fun _ _=>rfl⟩
theorem Ex.trans{h h1 h2:Heap}{r r1 r2:de}(x:Ex h r h1 r1)(y:Ex h1 r1 h2 r2):Ex h r h2 r2:=
 ⟨Nat.le_trans x.next y.next,fun b hb=>(y.get b (Nat.lt_of_lt_of_le hb x.next)).trans (x.get b hb),fun b hb=>(y.TD b (Nat.lt_of_lt_of_le hb x.next)).trans (x.TD b hb)⟩
abbrev Cb(h:Heap):=bu id 0 (fun b=>b<h.next) h
theorem Cb.ex{h h':Heap}{r r':de}{l l':List AV}(q:Cb h l l')(x:Ex h r h' r'):Cb h' l l':=
 q.mono (fun _ _=>rfl) (Nat.le_refl _) (fun b hb=>Nat.lt_of_lt_of_le hb x.next) (fun b hb=>x.get b hb)
theorem EE{h h':Heap}{r r':de}{l:List AV}(x:Ex h r h' r')(hd:bE (fun b=>b<h.next) l):aA r' l=aA r l:=fD (fun b hb=>x.TD b hb) l hd
theorem Cd{h h':Heap}{r r':de}{l:List AV}(x:Ex h r h' r')(hd:bE (fun b=>b<h.next) l):bE (fun b=>b<h'.next) l:=kW (fun b hb=>Nat.lt_of_lt_of_le hb x.next) l hd
theorem uP{D:Dom}:∀{l m:List AV},bE D l→bE D m→bE D (l++m)
 |[],_,_,h=>h
 |x::l,m,h1,h2=>⟨h1.1,uP h1.2 h2⟩
theorem BU(r:de)(l m:List AV):aA r (l++m)=aA r l++aA r m:=by simp[dj]
theorem sL:∀{l m:List AV},bL l=true→bL m=true→bL (l++m)=true
 |[],_,_,h=>h
 |x::l,m,h1,h2=>by simp only[bL,Bool.and_eq_true] at h1;simp only[List.cons_append,bL,h1.1,Bool.true_and];exact sL h1.2 h2
theorem p9{z:Nat}:∀{l:List AV},aW z l=true→∀{i j:Nat} {x c:AV},l[i]?=some x→x.cells[j]?=some c→(ai l)[i*z+j]?=some c
 |[],_,i,j,x,c,hx,_=>by simp at hx
 |y::l,hz,0,j,x,c,hx,hc=>by
  simp at hx;subst hx;have hj:=(List.getElem?_eq_some_iff.1 hc).1;rw[show ai (y::l)=y.cells++ai l by simp[ai],Nat.zero_mul,Nat.zero_add,List.getElem?_append_left hj];exact hc
 |y::l,hz,i+1,j,x,c,hx,hc=>by
  simp only[aW,Bool.and_eq_true] at hz;have hy:=Nat.eq_of_beq_eq_true hz.1;rw[show ai (y::l)=y.cells++ai l by simp[ai],List.getElem?_append_right (by rw[hy,Nat.succ_mul];omega)];have:=p9 hz.2 (by simpa using hx) hc;rw[←this]
  congr 1
  rw[hy,Nat.succ_mul];omega
theorem Rd.more{h:Heap}{r:de}(q:Rd P H0 W h r){a:Addr}{c:Array Value}{t:TypeId}{fr:Nat×Nat}(ha:W.heap[a.block]?=some (.cells c t fr)){vs:List AV}(hd:bE (fun b=>b<h.next) vs)
  (hv:∀(i:Nat) (v:AV),vs[i]?=some v→c[a.off+i]?=some (real r v)):
  Rd P H0 W (h.new (.cells vs false 0)) (fun b=>if b=h.next then⟨a.block,a.off,0⟩ else r b)∧Ex h r (h.new (.cells vs false 0)) (fun b=>if b=h.next then⟨a.block,a.off,0⟩ else r b):=by
 have hex:Ex h r (h.new (.cells vs false 0)) (fun b=>if b=h.next then⟨a.block,a.off,0⟩ else r b):=
  ⟨Nat.le_succ _,fun b hb=>by rw[Heap.cB,if_neg (by omega)],fun b hb=>by rw[if_neg (by omega)]⟩
 have hro:∀b,(h.new (.cells vs false 0)).wr b=false:=by
  intro b;simp only[Heap.wr,Heap.cB];by_cases hb:b=h.next
  ·rw[if_pos hb]
  ·rw[if_neg hb];exact q.ro b
 refine⟨⟨⟨fun b hb=>hb,?_,q.inv.low,?_,?_⟩,hro⟩,hex⟩
 ·intro b hb;have hb':h.next+1≤b:=hb;rw[Heap.cB,if_neg (by omega)];exact q.inv.top b (by omega)
 ·intro b x hb hx;rw[Heap.cB] at hx;split at hx
  ·rename_i he;cases hx
   subst he;simp only[if_true];refine⟨c,t,fr,ha,fun i v hi=>?_,fun e=>by simp at e⟩;have Ny:v.bq fun b=>b<h.next:=(aV _ _).1 hd v (List.mem_of_getElem? hi);refine⟨?_,dB (fun b hb=>Nat.lt_succ_of_lt hb) v Ny⟩;rw[hv i v hi]
   congr 1
   refine(cR (fun b hb=>?_) v Ny).symm;rw[if_neg (by omega)]
  ·rename_i he;have hlt:b<h.next:=by have:b<h.next+1:=hb;omega
   simp only[if_neg he];exact cA (q.inv.cj b x hlt hx) (fun b hb=>Nat.lt_succ_of_lt hb) (fun b hb=>by rw[if_neg (by omega)]) rfl
 ·intro b b' _ _ _ hw;rw[hro b] at hw;simp at hw
variable {H:Type} {enc:TypeId×Value→H}
theorem uk{w:World}{a:Addr}{n:Nat}{cs:List Value}(h:w.cells? 0 a n=some cs):cs.length=n∧∀i,i<n→w.cell? (a.add i)=cs[i]?:=by
 simp only[World.cells?,Nat.zero_le,if_true] at h;refine⟨by simpa using mapM_some_length h,fun i hi=>mapM_some_get h i i (by simp[hi])⟩
theorem G2(a:Addr)(h:a.spot=none)(n:Nat):a.add n=⟨a.block,a.off+n,none⟩:=by
 obtain⟨b,o,s⟩:=a;simp only at h;subst h;simp only[Addr.add];split
 ·rename_i hn;subst hn;rfl
 ·rfl
theorem Bc{w:World}{a:Addr}{v:Value}(h:w.cell? a=some v):a.spot=none∧∃c t fr,w.heap[a.block]?=some (.cells c t fr)∧c[a.off]?=some v:=by
 simp only[World.cell?] at h;split at h
 ·rename_i c t fr hc;split at h
  ·simp at h
  ·rename_i hs;exact⟨by simpa using hs,c,t,fr,hc,h⟩
 ·simp at h
theorem nY{e:TypeId}:∀{l:List (DataW H)},(DataW.weightsAll P e l).all (· ≤reachBytes)=true→∀{d:DataW H},d∈l→(d.weights P e).all (· ≤reachBytes)=true
 |[],_,d,hd=>by simp at hd
 |x::l,h,d,hd=>by
  simp only[DataW.weightsAll,List.all_append,Bool.and_eq_true] at h;rcases List.mem_cons.1 hd with rfl|hd
  ·exact h.1
  ·exact nY h.2 hd
theorem qP:∀{ts:List TypeId} {l:List (DataW H)},(DataW.weightsEach P ts l).all (· ≤reachBytes)=true→∀{i:Nat} {t:TypeId} {d:DataW H},ts[i]?=some t→l[i]?=some d→(d.weights P t).all (· ≤reachBytes)=true
 |[],l,_,i,t,d,ht,_=>by simp at ht
 |t::ts,[],_,i,u,d,_,hd=>by simp at hd
 |t::ts,x::l,h,0,u,d,ht,hd=>by
  simp only[DataW.weightsEach,List.all_append,Bool.and_eq_true] at h;simp at ht hd;subst ht hd;exact h.1
 |t::ts,x::l,h,i+1,u,d,ht,hd=>by
  simp only[DataW.weightsEach,List.all_append,Bool.and_eq_true] at h;exact qP h.2 (by simpa using ht) (by simpa using hd)
theorem He:∀{l:List AV},bL l=true→bL (ai l)=true
 |[],_=>rfl
 |x::l,h=>by
  simp only[bL,Bool.and_eq_true] at h;exact sL (cI h.1) (He h.2)
theorem Ji(n:Nat):∀(m:Nat) (t:TypeId) (cs:List Value) (y:DataW H×List MemPlace),DataW.trod enc P W 0 (fun _=>true) true n t cs=some y→(y.1.weights P t).all (· ≤reachBytes)=true→fT P m t=true→
  ∀(h:Heap) (r:de),Rd P H0 W h r→∃(h':Heap) (r':de) (x:AV) (V':List AV),Rd P H0 W h' r'∧Ex h r h' r'∧Cb h' x.cells V'∧aA r' V'=cs∧bE (fun b=>b<h'.next) V'∧cP P t x∧x.cl=true:=by
 induction n with
 |zero=>intro m t cs y hy;simp[DataW.trod] at hy
 |succ n ih=>
  intro m t cs y hy qR hp h r q;cases m with
  |zero=>simp[fT] at hp
  |succ m=>
  cases hu:P.underlying t with
  |none=>simp[fT,hu] at hp
  |some d=>
  cases d with
  |bool=>
   obtain⟨b,rfl,_⟩:=DataW.trod_bool hu hy;exact⟨h,r,.bool b,[.bool b],q,.refl _ _,.cons .bool .nil,by simp[aA,real],by simp[bE,AV.bq],.bool hu,rfl⟩
  |int k=>
   obtain⟨i,rfl,_,hw⟩:=DataW.trod_int hu hy;exact⟨h,r,.int k i,[.int k i],q,.refl _ _,.cons .int .nil,by simp[aA,real],by simp[bE,AV.bq],.int hu hw,rfl⟩
  |string=>
   obtain⟨s,rfl,hys,hs⟩:=DataW.trod_string hu hy;rw[hys] at qR;simp only[DataW.weights,List.all_cons,List.all_nil,Bool.and_true,decide_eq_true_eq] at qR;exact⟨h,r,.str s.data.toList,[.str s.data.toList],q,.refl _ _,.cons .str .nil,by simp[aA,real],by simp[bE,AV.bq],.str hu qR,rfl⟩
  |slice e=>
   simp only[fT,hu,Bool.and_eq_true] at hp;have hz:=Nat.le_of_ble_eq_true hp.1;rcases DataW.trod_slice hu hy with⟨rfl,_⟩|⟨a,len,cap,elems,rest,n',hn,rfl,SU,_,hle,adV,hlen,hel,Wi,_⟩
   ·exact⟨h,r,.fz 3 [],[.aD],q,.refl _ _,.cons .jL .nil,by simp[aA,real],by simp[bE,AV.bq],.slice hu (Nat.le_refl _) (fun _=>rfl) (by simp) rfl (fun x hx=>by simp at hx),rfl⟩
   ·have hn':n=n':=by omega
    subst hn';rw[SU] at qR;simp only[DataW.weights,hu,List.all_cons,List.all_append,Bool.and_eq_true,decide_eq_true_eq,List.length_map] at qR;obtain⟨Zj,hwe,_⟩:=qR;have hlb:len*P.bytesOf e≤reachBytes:=Nat.le_trans (Nat.mul_le_mul_right _ (by omega)) Zj;by_cases hc0:cap=0
    ·subst hc0;have JZ:len=0:=by omega
     subst JZ;exact⟨h,r,.fz 1 [],[.gO a],q,.refl _ _,.cons (.Bw (by omega)) .nil,by simp[aA,real],by simp[bE,AV.bq],.slice hu (by omega) (fun _=>rfl) (by simp) rfl (fun x hx=>by simp at hx),rfl⟩
    ·
     have Sv:∃cs0,W.cells? 0 (a.add (0*P.cellsOf e)) (P.cellsOf e)=some cs0:=by
      by_cases JZ:len=0
      ·obtain⟨h1,h2⟩:=Wi rfl;have:=h2 0 (by omega);rw[JZ,Nat.zero_add] at this;have Nw:0<rest.length:=by omega
       rw[List.getElem?_eq_getElem Nw] at this;simp only[Option.bind_eq_some_iff] at this;obtain⟨cs0,h3,_⟩:=this;exact⟨cs0,h3⟩
      ·have:=hel 0 (by omega);rw[List.getElem?_eq_getElem (by omega)] at this;simp only[Option.bind_eq_some_iff] at this;obtain⟨cs0,h3,_⟩:=this;exact⟨cs0,h3⟩
     obtain⟨cs0,h0⟩:=Sv;have h0c:=(uk h0).2 0 (by omega);rw[Nat.zero_mul,show(a.add 0).add 0=a by simp[Addr.add],List.getElem?_eq_getElem (by rw[(uk h0).1];omega)] at h0c;obtain⟨LF,c,ct,fr,FR,_⟩:=Bc h0c;have step:∀k,k≤len→∃h' r' l vs,Rd P H0 W h' r'∧Ex h r h' r'∧l.length=k∧aW (P.cellsOf e) l=true∧Cb h' (ai l) vs∧bE (fun b=>b<h'.next) vs∧
       (∀(i:Nat) (v:AV),vs[i]?=some v→c[a.off+i]?=some (real r' v))∧(∀x,x∈l→cP P e x)∧bL l=true:=by
      intro k;induction k with
      |zero=>intro _;exact⟨h,r,[],[],q,.refl _ _,rfl,rfl,.nil,trivial,fun i v hi=>by simp at hi,fun x hx=>by simp at hx,rfl⟩
      |succ k SW=>
       intro hk;obtain⟨h1,r1,l,vs,g1,g2,g3,g4,g5,g6,g7,g8,g9⟩:=SW (by omega);have AA:=hel k (by omega);rw[List.getElem?_eq_getElem (by omega)] at AA;simp only[Option.bind_eq_some_iff] at AA;obtain⟨csk,hk2,qQ⟩:=AA;obtain⟨h2,r2,x,V',f1,f2,f3,f4,f5,f6,f7⟩:=ih m e csk _ qQ (nY hwe (List.mem_map.2 ⟨_,List.getElem_mem _,rfl⟩)) hp.2 h1 r1 g1;obtain⟨ck1,ck2⟩:=uk hk2;have Pj:x.cells.length=P.cellsOf e:=by
        rw[f3.1,←ck1,←f4];simp[dj]
       have hvl:vs.length=k*P.cellsOf e:=by
        rw[←g5.1,(l6 g4).1,g3]
       refine⟨h2,r2,l++[x],vs++V',f1,g2.trans f2,by simp[g3],?_,?_,uP (Cd f2 g6) f5,?_,?_,sL g9 (by simp[bL,f7])⟩
       ·refine lX.2 fun i u hu=>?_;by_cases hi:i<l.length
        ·rw[List.getElem?_append_left hi] at hu;exact dN g4 hu
        ·rw[List.getElem?_append_right (by omega)] at hu;have:i-l.length=0:=by
          have:=(List.getElem?_eq_some_iff.1 hu).1;simp at this;omega
         rw[this] at hu;simp at hu;subst hu;exact Pj
       ·have:ai (l++[x])=ai l++x.cells:=by simp[ai]
        rw[this];exact(g5.ex f2).append f3
       ·intro i v hi;by_cases hlt:i<vs.length
        ·rw[List.getElem?_append_left hlt] at hi;rw[g7 i v hi]
         congr 1
         exact(cR (fun b hb=>f2.TD b hb) v ((aV _ _).1 g6 v (List.mem_of_getElem? hi))).symm
        ·rw[List.getElem?_append_right (by omega)] at hi;have hj:=(List.getElem?_eq_some_iff.1 hi).1;have hjl:i-vs.length<P.cellsOf e:=by rw[←Pj,f3.1];exact hj
         have Fe:=ck2 (i-vs.length) hjl;rw[G2 a LF,G2 _ rfl] at Fe;have VE:csk[i-vs.length]?=some (real r2 v):=by rw[←f4,dj,List.getElem?_map,hi];rfl
         rw[VE] at Fe;obtain⟨_,c',ct',fr',lf,fh⟩:=Bc Fe;simp only at lf fh;rw[FR] at lf;cases lf
         rw[←fh]
         congr 1
         omega
       ·intro u hu;rcases List.mem_append.1 hu with hu|hu
        ·exact g8 u hu
        ·simp at hu;subst hu;exact f6
     obtain⟨h1,r1,l,vs,g1,g2,g3,g4,g5,g6,g7,g8,g9⟩:=step len (Nat.le_refl _);obtain⟨m1,m2⟩:=g1.more FR g6 g7;have hfl:=l6 g4;have hvl:vs.length=l.length*P.cellsOf e:=by rw[←g5.1,hfl.1]
     refine⟨_,_,.fz 1 l,[.sl h1.next 0 len cap false],m1,g2.trans m2,.cons ?_ .nil,?_,?_,.slice hu (by omega) (fun h=>by omega) (by rw[g3];exact hlb) g4 g8,by simpa[AV.cl] using g9⟩
     ·have cS:(h1.new (.cells vs false 0)).get h1.next=some (.cells vs false 0):=by rw[Heap.cB,if_pos rfl]
      refine .fz (o:=0) (z:=P.cellsOf e) (show h1.next<h1.next+1 by omega) cS g4 g3.symm (by omega) hle (by omega) (fun _=>rfl) (fun h=>by omega) ?_;intro i x j cc y hx hc hy;rw[Nat.zero_add] at hy;exact(g5.ex m2).2 _ _ _ (p9 g4 hx hc) hy
     ·simp only[aA,real,if_true,Nat.add_zero,cond_false]
      congr 3
      obtain⟨ab,ao,as⟩:=a;simp only at LF;subst LF;rfl
     ·simp only[bE,AV.bq,and_true];show h1.next<h1.next+1;omega
  |struct fs=>
   simp only[fT,hu,Bool.and_eq_true] at hp;obtain⟨xs,n',hn,SU,jQ,Pj,hf⟩:=DataW.trod_struct hu hy;have hn':n=n':=by omega
   subst hn';rw[SU] at qR;simp only[DataW.weights,hu] at qR;have hfl:∀f,f∈fs.toList→∃y,DataW.trod enc P W 0 (fun _=>true) true n f.type ((cs.drop f.offset).take (P.cellsOf f.type))=some y∧(y.1.weights P f.type).all (· ≤reachBytes)=true:=by
    intro f hf';obtain⟨i,hi,rfl⟩:=List.getElem_of_mem hf';have h1:=hf i fs[i] (by simp[Array.getElem?_eq_getElem (by simpa using hi:i<fs.size)]);rw[List.getElem?_eq_getElem (by rw[Pj];simpa using hi)] at h1;refine⟨_,by simpa using h1,qP (i:=i) qR (by rw[List.getElem?_map,List.getElem?_eq_getElem hi];rfl) (by rw[List.getElem?_map,List.getElem?_eq_getElem (by rw[Pj];simpa using hi)];rfl)⟩
   have fields:∀(fl:List Field) (o:Nat),HF P fl o (P.cellsOf t)=true→(∀f,f∈fl→fT P m f.type=true)→(∀f,f∈fl→∃y,DataW.trod enc P W 0 (fun _=>true) true n f.type ((cs.drop f.offset).take (P.cellsOf f.type))=some y∧(y.1.weights P f.type).all (· ≤reachBytes)=true)→
     ∀(h:Heap) (r:de),Rd P H0 W h r→∃(h':Heap) (r':de) (V V' ys:List AV),Rd P H0 W h' r'∧Ex h r h' r'∧Cb h' V V'∧aA r' V'=cs.drop o∧bE (fun b=>b<h'.next) V'∧bL V=true∧o≤P.cellsOf t∧
      ys.length=fl.length∧∀(i:Nat) (f:Field) (y:AV),fl[i]?=some f→ys[i]?=some y→o≤f.offset∧cP P f.type y∧y.cells=(V.drop (f.offset-o)).take (P.cellsOf f.type):=by
    intro fl;induction fl with
    |nil=>
     intro o ho _ _ h r q;have ho':o=P.cellsOf t:=Nat.eq_of_beq_eq_true ho;exact⟨h,r,[],[],[],q,.refl _ _,.nil,by rw[List.drop_eq_nil_of_le (by omega)];rfl,trivial,rfl,by omega,rfl,fun i f y hf=>by simp at hf⟩
    |cons f fl Wu=>
     intro o ho m9 Zh h r q;simp only[HF,Bool.and_eq_true] at ho;have hfo:=Nat.eq_of_beq_eq_true ho.1;obtain⟨yf,hyf,hyw⟩:=Zh f List.mem_cons_self;obtain⟨h1,r1,x,V',f1,f2,f3,f4,f5,f6,f7⟩:=ih m f.type _ yf hyf hyw (m9 f List.mem_cons_self) h r q;obtain⟨h2,r2,U,U',ys,u1,u2,u3,u4,u5,u6,u7,u9,u8⟩:=Wu (o+P.cellsOf f.type) ho.2 (fun f hf=>m9 f (List.mem_cons_of_mem _ hf)) (fun f hf=>Zh f (List.mem_cons_of_mem _ hf)) h1 r1 f1;have hxc:x.cells.length=P.cellsOf f.type:=by
      rw[f3.1];have:=congrArg List.length f4;simp only[dj,List.length_map,List.length_take,List.length_drop] at this;omega
     refine⟨h2,r2,x.cells++U,V'++U',x::ys,u1,f2.trans u2,(f3.ex u2).append u3,?_,uP (Cd u2 f5) u5,sL (cI f7) u6,by omega,by simp[u9],?_⟩
     ·rw[BU,EE u2 f5,f4,u4,hfo,←List.drop_drop,List.take_append_drop]
     ·intro i g y hg hy;cases i with
      |zero=>
       simp at hg hy;subst hg hy;refine⟨by omega,f6,?_⟩;rw[hfo,Nat.sub_self,List.drop_zero,List.take_append_of_le_length (by omega),List.take_of_length_le (by omega)]
      |succ i=>
       obtain⟨g1,g2,g3⟩:=u8 i g y (by simpa using hg) (by simpa using hy);refine⟨by omega,g2,?_⟩;rw[g3,show g.offset-o=x.cells.length+(g.offset-(o+P.cellsOf f.type)) by omega,←List.drop_drop,List.drop_left]
   obtain⟨h1,r1,V,V',ys,g1,g2,g3,g4,g5,g6,_,g9,g8⟩:=fields fs.toList 0 hp.1 (fun f hf=>List.all_eq_true.1 hp.2 f hf) hfl h r q;refine⟨h1,r1,.agg V,V',g1,g2,g3,by rw[g4,List.drop_zero],g5,.struct (ys:=ys) hu ?_ (by simpa using g9) ?_ ?_,by simpa[AV.cl] using g6⟩
   ·rw[g3.1,←jQ,←List.drop_zero (l:=cs),←g4];simp[dj]
   ·intro i f y hi hy;exact(g8 i f y (by simpa using hi) hy).2.1
   ·intro i f y hi hy;simpa using(g8 i f y (by simpa using hi) hy).2.2
  |array n0 e=>
   simp only[fT,hu,Bool.and_eq_true] at hp;have hz:=Nat.eq_of_beq_eq_true hp.1;obtain⟨xs,n',hn,SU,jQ,Pj,hf⟩:=DataW.trod_array hu hy;have hn':n=n':=by omega
   subst hn';rw[SU] at qR;simp only[DataW.weights,hu] at qR;have step:∀k,k≤n0→∃h' r' l vs,Rd P H0 W h' r'∧Ex h r h' r'∧l.length=k∧aW (P.cellsOf e) l=true∧Cb h' (ai l) vs∧bE (fun b=>b<h'.next) vs∧
     aA r' vs=cs.take (k*P.cellsOf e)∧(∀x,x∈l→cP P e x)∧bL l=true:=by
    intro k;induction k with
    |zero=>intro _;exact⟨h,r,[],[],q,.refl _ _,rfl,rfl,.nil,trivial,by simp[aA],fun x hx=>by simp at hx,rfl⟩
    |succ k SW=>
     intro hk;obtain⟨h1,r1,l,vs,g1,g2,g3,g4,g5,g6,g7,g8,g9⟩:=SW (by omega);have AA:=hf k (by omega);rw[List.getElem?_eq_getElem (by omega)] at AA;obtain⟨h2,r2,x,V',f1,f2,f3,f4,f5,f6,f7⟩:=ih m e _ _ AA (nY qR (List.mem_map.2 ⟨_,List.getElem_mem _,rfl⟩)) hp.2 h1 r1 g1;have hle:(k+1)*P.cellsOf e≤n0*P.cellsOf e:=Nat.mul_le_mul_right _ hk;have Dg:(k+1)*P.cellsOf e=k*P.cellsOf e+P.cellsOf e:=Nat.succ_mul _ _;have hxc:x.cells.length=P.cellsOf e:=by
      rw[f3.1];have:=congrArg List.length f4;simp only[dj,List.length_map,List.length_take,List.length_drop] at this;omega
     refine⟨h2,r2,l++[x],vs++V',f1,g2.trans f2,by simp[g3],?_,?_,uP (Cd f2 g6) f5,?_,?_,sL g9 (by simp[bL,f7])⟩
     ·refine lX.2 fun i u hu=>?_;by_cases hi:i<l.length
      ·rw[List.getElem?_append_left hi] at hu;exact dN g4 hu
      ·rw[List.getElem?_append_right (by omega)] at hu;have:i-l.length=0:=by
        have:=(List.getElem?_eq_some_iff.1 hu).1;simp at this;omega
       rw[this] at hu;simp at hu;subst hu;exact hxc
     ·have:ai (l++[x])=ai l++x.cells:=by simp[ai]
      rw[this];exact(g5.ex f2).append f3
     ·rw[BU,EE f2 g6,g7,f4,Dg,List.take_add]
     ·intro u hu;rcases List.mem_append.1 hu with hu|hu
      ·exact g8 u hu
      ·simp at hu;subst hu;exact f6
   obtain⟨h1,r1,l,vs,g1,g2,g3,g4,g5,g6,g7,g8,g9⟩:=step n0 (Nat.le_refl _);exact⟨h1,r1,.agg (ai l),vs,g1,g2,g5,by rw[g7,List.take_of_length_le (by omega)],g6,.array hu g3 g4 g8,by simpa[AV.cl] using He g9⟩
  |_=>simp[fT,hu] at hp
theorem Na{m:Nat}{t:TypeId}{x:AV}{base:Nat}{v:Value}(hp:fT P m t=true)(ht:cP P t x)(hv:Value.okWide P W .any base t v):
  (∃cs vs,x=.agg cs∧v=.agg vs)∨(x.cells=[x]∧v.cells=#[v]):=by
 cases m with
 |zero=>simp[fT] at hp
 |succ m=>
 have hcell:∀(hne:∀fs,P.underlying t≠some (.struct fs)) (V9:∀n e,P.underlying t≠some (.array n e)),v.cells=#[v]:=by
  intro hne V9;unfold Value.okWide at hv;split at hv
  ·rename_i fs hu;exact absurd hu (hne fs)
  ·rename_i n e hu;exact absurd hu (V9 n e)
  ·cases v with
   |agg cs=>
    unfold Cell.okWide at hv;split at hv<;>try(rename_i h1;simp at h1;done)
    unfold Cell.ok at hv;split at hv<;>first|exact hv.elim|(rename_i h1;simp at h1;done)|skip
    all_goals (rename_i h1 _;simp at h1)
   |_=>rfl
 cases ht with
 |bool hu=>exact .inr ⟨rfl,hcell (fun fs h=>by rw[hu] at h;simp at h) (fun n e h=>by rw[hu] at h;simp at h)⟩
 |int hu=>exact .inr ⟨rfl,hcell (fun fs h=>by rw[hu] at h;simp at h) (fun n e h=>by rw[hu] at h;simp at h)⟩
 |str hu=>exact .inr ⟨rfl,hcell (fun fs h=>by rw[hu] at h;simp at h) (fun n e h=>by rw[hu] at h;simp at h)⟩
 |slice hu=>exact .inr ⟨rfl,hcell (fun fs h=>by rw[hu] at h;simp at h) (fun n e h=>by rw[hu] at h;simp at h)⟩
 |struct hu=>
  unfold Value.okWide at hv;rw[hu] at hv;obtain⟨vs,rfl,_⟩:=hv;exact .inl ⟨_,vs,rfl,rfl⟩
 |array hu=>
  unfold Value.okWide at hv;rw[hu] at hv;obtain⟨vs,rfl,_⟩:=hv;exact .inl ⟨_,vs,rfl,rfl⟩
theorem BO{base:Nat}:∀(ts:List TypeId) (vs:List Value) (ds:List (DataW H)) (ps:List MemPlace),DataW.TrodAll enc P W 0 (fun _=>true) true ts vs ds ps→(DataW.weightsEach P ts ds).all (· ≤reachBytes)=true→(∀t,t∈ts→fT P 100 t=true)→
  (∀(j:Nat) t v,ts[j]?=some t→vs[j]?=some v→Value.okWide P W .any base t v)→∀(h:Heap) (r:de),Rd P H0 W h r→
  ∃(h':Heap) (r':de) (xs as:List AV),Rd P H0 W h' r'∧Ex h r h' r'∧Cb h' xs as∧aA r' as=vs∧bE (fun b=>b<h'.next) as∧bL xs=true∧xs.length=ts.length∧∀(i:Nat) t x,ts[i]?=some t→xs[i]?=some x→cP P t x
 |[],[],[],ps,_,_,_,_,h,r,q=>⟨h,r,[],[],q,.refl _ _,.nil,rfl,trivial,rfl,rfl,fun i t x hi=>by simp at hi⟩
 |t::ts,v::vs,d::ds,ps,⟨p1,p2,⟨fuel,Zh⟩,hall,_⟩,qR,m9,hok,h,r,q=>by
  simp only[DataW.weightsEach,List.all_append,Bool.and_eq_true] at qR;obtain⟨h1,r1,x,V',f1,f2,f3,f4,f5,f6,f7⟩:=Ji fuel 100 t _ _ Zh qR.1 (m9 t List.mem_cons_self) h r q;obtain⟨h2,r2,xs,as,g1,g2,g3,g4,g5,g6,g7,g8⟩:=BO ts vs ds p2 hall qR.2 (fun t ht=>m9 t (List.mem_cons_of_mem _ ht)) (fun j t v ht hv=>hok (j+1) t v (by simpa using ht) (by simpa using hv)) h1 r1 f1;have hone:∃w,Rel id 0 (fun b=>b<h1.next) h1 x w∧real r1 w=v∧w.bq fun b=>b<h1.next:=by
   rcases Na (m9 t List.mem_cons_self) f6 (hok 0 t v rfl rfl) with⟨cs,cv,rfl,rfl⟩|⟨hx,hv⟩
   ·refine⟨.agg V',.agg f3.1 f3.2,?_,by simpa[AV.bq] using f5⟩;simp only[real,f4];simp[Value.cells]
   ·rw[hx] at f3;obtain⟨w,rfl,hw⟩:=f3.one;refine⟨w,hw,?_,f5.1⟩;rw[hv] at f4;simpa[aA] using f4
  obtain⟨w,w1,w2,w3⟩:=hone;refine⟨h2,r2,x::xs,w::as,g1,f2.trans g2,.cons (w1.mono (fun _ _=>rfl) (Nat.le_refl _) (fun b hb=>Nat.lt_of_lt_of_le hb g2.next) (fun b hb=>g2.get b hb)) g3,?_,⟨dB (fun b hb=>Nat.lt_of_lt_of_le hb g2.next) _ w3,g5⟩,by simp[bL,f7,g6],by simp[g7],?_⟩
  ·simp only[aA];rw[g4,cR (fun b hb=>g2.TD b hb) w w3,w2]
  ·intro i t' x' ht hx;cases i with
   |zero=>simp at ht hx;subst ht hx;exact f6
   |succ i=>exact g8 i t' x' (by simpa using ht) (by simpa using hx)
 |[],_::_,_,_,h,_,_,_,_,_,_=>by simp[DataW.TrodAll] at h
 |[],[],_::_,_,h,_,_,_,_,_,_=>by simp[DataW.TrodAll] at h
 |_::_,[],_,_,h,_,_,_,_,_,_=>by simp[DataW.TrodAll] at h
 |_::_,_::_,[],_,h,_,_,_,_,_,_=>by simp[DataW.TrodAll] at h
theorem MA(hl:H0≤W.heap.size):Rd P H0 W ⟨0,.nil⟩ default:=
 ⟨⟨fun b hb=>hb,fun b _=>rfl,hl,fun b x hb _=>absurd hb (Nat.not_lt_zero b),fun b b' hb _ _ _ _=>absurd hb (Nat.not_lt_zero b)⟩,fun b=>rfl⟩
theorem PC.calls{fs:Nat→Option aB}{ms:Nat→String→Option Nat}(sys:lW P fs ms)(codes:∀f af,fs f=some af→gr af.body=true){f:Nat}{xs as:List AV}{v:AV}(hp:PC fs ms f xs v)(hv:v.pl=true)
  {h:Heap}{r:de}(rd:Rd P W.heap.size W h r)(q:Cb h xs as)(hd:bE (fun b=>b<h.next) as):
  Calls P f (aA r as).toArray W fun e w'=>e=.returned (real default v)∧Kept W w':=by
 obtain⟨_,_,u,g,hb,hf⟩:=hp;have:=K2 hf hv;subst this;have Nw:HR id (fun b=>b<h.next) ⟨0,.nil⟩ h:=by
  refine⟨fun b _=>rfl,rd.inv.top,fun b hb=>hb,fun b x hx=>?_,fun b c hb=>absurd rfl hb,fun b hb=>absurd rfl hb⟩;have:(none:Option dm)=some x:=hx;simp at this
 obtain⟨s1,F1,h1,w,b1,_,b3⟩:=(hb 0).sim codes id (fun b=>b<h.next) h as Nw q;have hw:=b3.jO hv;subst hw;have hs:=(b1.sound sys W.heap.size).1;have:=hs r (fun b=>b<h.next) W 0 rd.inv hd;rw[callsIn_wide] at this;refine this.mono ?_;rintro e w' ⟨r',rfl,hi,hx,BB⟩;have hnw:∀i,i<W.heap.size→w'.heap[i]?=W.heap[i]?:=fun i hi=>hx.frame i hi (fun b _ hb=>by rw[rd.ro b] at hb;simp at hb);refine⟨?_,hx.size,hnw,hx.tape,hx.os,hx.output⟩
 congr 1
 exact cR (D:=fun _=>False) (fun b hb=>hb.elim) _ (Gs hv)
end
end Ads
end Go.Proofs.Ytepdklcpagielaa
