/-
  Heaps that are not known but for some blocks: how operations read and write them. Rank: ids with their keys, as cells; ahead, lay.
-/
import Derived.Test.YtepdklcpagielaaZA
set_option maxRecDepth 100000
set_option linter.unusedSimpArgs false
set_option linter.unusedVariables false
namespace Go.Proofs.Ytepdklcpagielaa
open Go Ads
namespace Ads
theorem cD{h:Heap}{b o n es:Nat}{vs:List AV}{v:AV}(hg:h.get b=some (.cells vs true es))(hn:v.cells.length=n)(hl:o+n≤vs.length)(hf:bx v.cells=true):
  eV (.store n) [.ptr b o,v] h=some (.undef,h.set b (.cells (Heap.splice vs o v.cells) true es)):=by
 have b1:Nat.beq v.cells.length n=true:=by rw[hn];exact Nat.beq_refl n
 have b2:Nat.ble (o+v.cells.length) vs.length=true:=Nat.ble_eq_true_of_le (by omega);show cond (Nat.beq v.cells.length n) ((h.dU b o v.cells).map fun h=>(AV.undef,h)) none=_;rw[b1,cond_true];simp only[Heap.dU,hg,b2,hf,Bool.and_self,cond_true];rfl
theorem wj{h:Heap}{b c:Nat}{x:dm}:(h.set b x).get c=if c=b then some x else h.get c:=Tr.bP _ _ _ _
theorem aG{h:Heap}{b:Nat}{x:dm}:(h.set b x).get b=some x:=by rw[wj,if_pos rfl]
theorem bB{h:Heap}{b c:Nat}{x:dm}(hn:c≠b):(h.set b x).get c=h.get c:=by rw[wj,if_neg hn]
theorem an{h:Heap}{x:dm}:(h.new x).get h.next=some x:=by rw[Heap.cB,if_pos rfl]
theorem aO{h:Heap}{c:Nat}{x:dm}(hn:c<h.next):(h.new x).get c=h.get c:=by rw[Heap.cB,if_neg (by omega)]
theorem dr{b o n j s:Nat}(h:j<n):pV (.bT s n) [.ptr b o,.int .i64 (j:Nat)]=some (.ptr b (o+j*s)):=by
 have b1:Nat.ble (j+1) n=true:=Nat.ble_eq_true_of_le h;simp only[pV,l2,uo];show cond (Nat.ble (j+1) n) (some (AV.ptr b (o+j*s))) none=_;rw[b1,cond_true]
theorem l9{b n cap j s:Nat}{op:Bool}(h:j<n):pV (.aE s) [.sl b 0 n cap op,.int .i64 (j:Nat)]=some (.ptr b (j*s)):=by
 have b1:Nat.ble (j+1) n=true:=Nat.ble_eq_true_of_le h;simp only[pV,l2,uo];show cond (Nat.ble (j+1) n) (some (AV.ptr b (0+j*s))) none=_;rw[b1,cond_true,Nat.zero_add]
structure Fr(h h':Heap)(bs:List Nat):Prop where
 next:h.next≤h'.next
 keep:∀b,b<h.next→b∉bs→h'.get b=h.get b
theorem Fr.refl(h:Heap)(bs:List Nat):Fr h h bs:=⟨Nat.le_refl _,fun _ _ _=>rfl⟩
theorem Fr.trans{h h1 h2:Heap}{bs:List Nat}(a:Fr h h1 bs)(b:Fr h1 h2 bs):Fr h h2 bs:=⟨Nat.le_trans a.next b.next,fun c hc hn=>(b.keep c (Nat.lt_of_lt_of_le hc a.next) hn).trans (a.keep c hc hn)⟩
theorem Fr.set{h h1:Heap}{bs:List Nat}{b:Nat}{x:dm}(a:Fr h h1 bs)(hb:b∈bs):Fr h (h1.set b x) bs:=⟨a.next,fun c hc hn=>by rw[bB (by intro e;subst e;exact hn hb)];exact a.keep c hc hn⟩
theorem Fr.new{h h1:Heap}{bs:List Nat}{x:dm}(a:Fr h h1 bs):Fr h (h1.new x) bs:=⟨Nat.le_succ_of_le a.next,fun c hc hn=>by rw[aO (Nat.lt_of_lt_of_le hc a.next)];exact a.keep c hc hn⟩
theorem Fr.lD{h h1:Heap}{bs:List Nat}{b:Nat}{x:dm}(a:Fr h h1 bs)(hb:h.next≤b):Fr h (h1.set b x) bs:=⟨a.next,fun c hc hn=>by rw[bB (by omega)];exact a.keep c hc hn⟩
end Ads
namespace Ir
abbrev Id:=Nat×Int
def ob(x:Id):AV:=.agg [.int .i64 (x.1:Nat),.int .i64 x.2]
def obs(L:List Id):List AV:=L.map ob
def oc(L:List Id):List AV:=ai (obs L)
theorem zT(L:List Id):aW 2 (obs L)=true:=ew (enc:=ob) (fun _=>rfl) L
theorem Pz(L:List Id):(obs L).length=L.length:=List.length_map ..
theorem Tq(L:List Id):(oc L).length=L.length*2:=by rw[oc,c9 (zT L),Pz]
theorem WY{L:List Id}{i:Nat}(h:i<L.length):(oc L)[i*2+0]?=some (.int .i64 (L[i].1:Nat)):=
 p9 (zT L) (x:=ob L[i]) (by rw[obs,List.getElem?_map,List.getElem?_eq_getElem h];rfl) rfl
theorem Tp{L:List Id}{i:Nat}(h:i<L.length):(oc L)[i*2+1]?=some (.int .i64 L[i].2):=
 p9 (zT L) (x:=ob L[i]) (by rw[obs,List.getElem?_map,List.getElem?_eq_getElem h];rfl) rfl
theorem Zs{L:List Id}{i:Nat}(h:i<L.length)(rest:List AV):((oc L++rest).drop (i*2)).take 2=[.int .i64 (L[i].1:Nat),.int .i64 L[i].2]:=by
 have hl:=Tq L;refine List.ext_getElem? fun k=>?_;rw[List.getElem?_take]
 match k with
 |0=>rw[if_pos (by omega),List.getElem?_drop,List.getElem?_append_left (by omega),WY h];rfl
 |1=>rw[if_pos (by omega),List.getElem?_drop,List.getElem?_append_left (by omega),Tp h];rfl
 |k+2=>rw[if_neg (by omega)];rfl
theorem Ts:∀(L:List Id) (i:Nat) (_:i<L.length) (x:Id) (rest:List AV),Heap.splice (oc L++rest) (i*2) [.int .i64 (x.1:Nat),.int .i64 x.2]=oc (L.set i x)++rest
 |y::L,0,_,x,rest=>by
  show AV.int .i64 (x.1:Nat)::AV.int .i64 x.2::Heap.splice (oc L++rest) 0 []=AV.int .i64 (x.1:Nat)::AV.int .i64 x.2::(oc L++rest);rw[c8]
 |y::L,i+1,h,x,rest=>by
  have ih:=Ts L i (by simpa using h) x rest;show Heap.splice (AV.int .i64 (y.1:Nat)::AV.int .i64 y.2::(oc L++rest)) ((i+1)*2) _=AV.int .i64 (y.1:Nat)::AV.int .i64 y.2::(oc (L.set i x)++rest);rw[show(i+1)*2=i*2+1+1 by omega,←ih];rfl
def Tw(P:Nat→Nat):List AV:=(List.range 64).map fun i=>.int .i64 ((P i:Nat):Int)
def mL(P:Nat→Nat)(i v:Nat):Nat→Nat:=fun j=>if j=i then v else P j
theorem vw(P:Nat→Nat):(Tw P).length=64:=by simp[Tw]
theorem HK{P:Nat→Nat}{i:Nat}(h:i<64):(Tw P)[i]?=some (.int .i64 ((P i:Nat):Int)):=by
 simp[Tw,List.getElem?_map,List.getElem?_range h]
theorem Zt{P:Nat→Nat}{i:Nat}(h:i<64)(v:Nat)(a:AV):Heap.splice (a::Tw P) (1+i*1) [.int .i64 ((v:Nat):Int)]=a::Tw (mL P i v):=by
 rw[nu _ _ _ (by rw[List.length_cons,vw];omega),show 1+i*1=i+1 by omega,List.set_cons_succ]
 congr 1
 refine List.ext_getElem? fun k=>?_;rw[List.getElem?_set];by_cases hk:k<64
 ·rw[HK hk,HK hk,vw,if_pos h,mL];by_cases hki:i=k
  ·subst hki;simp
  ·rw[if_neg hki,if_neg (Ne.symm hki)]
 ·rw[List.getElem?_eq_none (by rw[vw];omega),List.getElem?_eq_none (by rw[vw];omega),vw,if_pos h];split
  ·omega
  ·rfl
structure HAt(h:Heap)(p r cap:Nat)(op:Bool)(L:List Id)(P:Nat→Nat)(rest:List AV):Prop where
 hp:h.get p=some (.cells (.sl r 0 L.length cap op::Tw P) true 0)
 hr:h.get r=some (.cells (oc L++rest) true 2)
 ne:p≠r
 lp:p<h.next
 lr:r<h.next
def ah(a b:Id):Bool:=decide (a.2<b.2)||(decide (a.2=b.2)&&decide (a.1<b.1))
end Ir
end Go.Proofs.Ytepdklcpagielaa
