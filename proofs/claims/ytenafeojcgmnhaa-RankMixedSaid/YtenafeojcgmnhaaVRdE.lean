/-
  Rank: a rank in a heap, what it answers.
-/
import Derived.Test.YtenafeojcgmnhaaVRdD
set_option maxRecDepth 100000
set_option linter.unusedSimpArgs false
set_option linter.unusedVariables false
namespace Go.Proofs.Ytenafeojcgmnhaa
open Go Ads
namespace Ir
theorem pig:∀(n:Nat) (l:List Nat),l.Nodup→(∀x∈l,x<n)→l.length≤n:=by
 intro n;induction n with
 |zero=>
  intro l _ h;cases l with
  |nil=>simp
  |cons x l=>exact absurd (h x (by simp)) (by omega)
 |succ n ih=>
  intro l hn h;by_cases hm:n∈l
  ·have h1:=ih (l.erase n) (hn.erase n) (by
    intro x hx;have h2:=(List.Nodup.mem_erase_iff hn).1 hx;have:=h x h2.2;have:=h2.1;omega)
   rw[List.length_erase_of_mem hm] at h1;omega
  ·have:=ih l hn (by
    intro x hx;have:=h x hx;have:x≠n:=by rintro rfl;exact hm hx
    omega)
   omega
theorem qt.nodup{L:List Id}{P:Nat→Nat}(h:qt L P):(L.map (·.1)).Nodup:=by
 show List.Pairwise (· ≠·) _;rw[List.pairwise_iff_getElem];intro i j hi hj hij e;rw[List.length_map] at hi hj;rw[List.getElem_map,List.getElem_map] at e;have:=h.oz i j hi hj (by rw[dB hi,dB hj];exact e);omega
theorem qt.len{L:List Id}{P:Nat→Nat}(h:qt L P){n:Nat}(hn:∀y∈L,y.1<n):L.length≤n:=by
 have:=pig n (L.map (·.1)) h.nodup (by
  intro x hx;obtain⟨y,hy,rfl⟩:=List.mem_map.1 hx;exact hn y hy)
 rwa [List.length_map] at this
theorem qt.mj{L:List Id}{P:Nat→Nat}(h:qt L P):L.length≤64:=h.len fun y hy=>by
 obtain⟨i,hi,rfl⟩:=bZ.1 hy;exact h.small i hi
theorem qt.uniq{L:List Id}{P:Nat→Nat}(h:qt L P){x y:Id}(hx:x∈L)(hy:y∈L)(e:x.1=y.1):x=y:=by
 obtain⟨i,hi,rfl⟩:=bZ.1 hx;obtain⟨j,hj,rfl⟩:=bZ.1 hy;rw[h.oz i j hi hj e]
theorem qt.no{L:List Id}{P:Nat→Nat}(h:qt L P){i:Nat}(h0:P i=0):∀y∈L,y.1≠i:=by
 intro y hy e;obtain⟨j,hj,rfl⟩:=bZ.1 hy;have:=h.pl j hj;rw[e] at this;omega
def Row(h:Heap)(k p:Nat)(S:List Nat)(L:List Id)(P:Nat→Nat):Prop:=
 (L=[]∧S=[k,p]∧h.get p=some (.cells (.aN::D5 P) true 0))∨
 ∃r cap rest,S=[k,p,r]∧r≠k∧L.length*2+rest.length=cap*2∧mJ h p r cap true L P rest
structure mG(h:Heap)(k p:Nat)(S:List Nat)(L:List Id)(P:Nat→Nat):Prop where
 hk:h.get k=some (.cells [.ptr p 0] true 0)
 ne:k≠p
 lk:k<h.next
 lp:p<h.next
 row:Row h k p S L P
 pl:qt L P
 hp:Hp L
structure Own(h h':Heap)(S S':List Nat):Prop where
 fr:Fr h h' S
 new:∀b∈S',b∈S∨h.next≤b
theorem vD{h:Heap}{k p:Nat}{S:List Nat}{L:List Id}{P:Nat→Nat}(hr:mG h k p S L P){Q:AV→Heap→Prop}(hQ:Q (.bool false) h):VD fs ms 44 [.ptr k 0] h Q:=by
 refine aE (af:=NV) true rfl (Nat.le_of_ble_eq_true rfl) ?_;conv=>whnf
 refine⟨_,bQ hr.hk rfl,?_⟩;conv=>whnf
 exact hQ
theorem yz{h:Heap}{k p:Nat}{S:List Nat}{L:List Id}{P:Nat→Nat}(hr:mG h k p S L P)(id:Int){Q:AV→Heap→Prop}(hQ:Q (.int .i64 (if id<0∨64≤id then 9 else 0)) h):VD fs ms 40 [.ptr k 0,.int .i64 id] h Q:=by
 refine aE (af:=OM) true rfl (Nat.le_of_ble_eq_true rfl) ?_;conv=>whnf
 refine vD hr ?_;conv=>whnf
 refine br (fun hc=>?_) (fun hc=>?_)<;>(try rw[hc])<;>(conv=>whnf)
 ·have:id<0:=of_decide_eq_true hc;rw[if_pos (.inl this)] at hQ;exact hQ
 ·have h1:¬id<0:=of_decide_eq_false hc;refine br (fun hc=>?_) (fun hc=>?_)<;>(try rw[hc])<;>(conv=>whnf)
  ·have:64≤id:=of_decide_eq_true hc;rw[if_pos (.inr this)] at hQ;exact hQ
  ·have h2:¬64≤id:=of_decide_eq_false hc;rw[if_neg (by omega)] at hQ;exact hQ
theorem Row.place{h:Heap}{k p:Nat}{S:List Nat}{L:List Id}{P:Nat→Nat}(hr:Row h k p S L P){i:Nat}(hi:i<64):rV .bW [.ptr p (1+i*1)] h=some (.int .i64 ((P i:Nat):Int)):=by
 rcases hr with⟨_,_,hg⟩|⟨r,cap,rest,_,_,_,hh⟩
 ·refine bQ hg ?_;rw[show 1+i*1=i+1 by omega,List.getElem?_cons_succ];exact uI hi
 ·exact hh.place hi
theorem I3{h:Heap}{k p:Nat}{S:List Nat}{L:List Id}{P:Nat→Nat}(hr:mG h k p S L P)(id:Int){Q:AV→Heap→Prop}(h1:id<0∨64≤id→Q (.cg [.int .i64 0,.bool false]) h)
  (h2:∀i:Nat,id=i→i<64→P i=0→Q (.cg [.int .i64 (-1),.bool false]) h)
  (h3:∀i j:Nat,id=i→i<64→j<L.length→P i=j+1→(gI L j).1=i→Q (.cg [.int .i64 ((j:Nat):Int),.bool true]) h):VD fs ms 41 [.ptr k 0,.int .i64 id] h Q:=by
 refine aE (af:=ON) true rfl (Nat.le_of_ble_eq_true rfl) ?_;conv=>whnf
 refine yz hr id ?_;conv=>whnf
 by_cases hb:id<0∨64≤id
 ·rw[if_pos hb];conv=>whnf
  exact h1 hb
 ·rw[if_neg hb];conv=>whnf
  obtain⟨i,rfl⟩:∃i:Nat,id=i:=⟨id.toNat,by omega⟩;have hi:i<64:=by omega
  refine⟨_,bQ hr.hk rfl,?_⟩;conv=>whnf
  refine⟨_,bu (o:=1) hi,?_⟩;conv=>whnf
  refine⟨_,hr.row.place hi,?_⟩;conv=>whnf
  refine⟨_,bQ hr.hk rfl,?_⟩;conv=>whnf
  refine⟨_,bu (o:=1) hi,?_⟩;conv=>whnf
  refine⟨_,hr.row.place hi,?_⟩;conv=>whnf
  by_cases h0:P i=0
  ·have:=h2 i rfl hi h0;rw[h0];exact this
  ·have hb:=hr.pl.back i hi (by omega);have hle:=hr.pl.mj;obtain⟨j,hj⟩:∃j,P i=j+1:=⟨P i-1,by omega⟩;rw[hj] at hb⊢;have:=h3 i j rfl hi (by omega) hj hb.2;rw[show IntKind.i64.wrap (((j+1:Nat):Int)-1)=((j:Nat):Int) by rw[show((j+1:Nat):Int)-1=((j:Nat):Int) by omega,iw (by omega)],show decide ((0:Int)<((j+1:Nat):Int))=true from decide_eq_true (by omega)];exact this
end Ir
end Go.Proofs.Ytenafeojcgmnhaa
