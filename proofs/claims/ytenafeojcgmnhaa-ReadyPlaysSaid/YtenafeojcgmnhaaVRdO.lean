/-
  Ready in plain Lean: a queue's ids and the document's deadlines.
-/
import Derived.Test.YtenafeojcgmnhaaVRdN
set_option maxRecDepth 100000
set_option linter.unusedSimpArgs false
set_option linter.unusedVariables false
namespace Go.Proofs.Ytenafeojcgmnhaa
open Go Ads
namespace Ir
theorem mq{α:Type}{r:α→α→Prop}(Hh:∀x,¬r x x)(OX:∀x y,r x y→¬r y x):∀(A B:List α),A.Pairwise r→B.Pairwise r→(∀y,y∈A↔y∈B)→A=B
 |[],[],_,_,_=>rfl
 |[],b::B,_,_,h=>absurd ((h b).2 List.mem_cons_self) (by simp)
 |a::A,[],_,_,h=>absurd ((h a).1 List.mem_cons_self) (by simp)
 |a::A,b::B,ha,hb,h=>by
  rw[List.pairwise_cons] at ha hb;have e:a=b:=by
   rcases List.mem_cons.1 ((h a).1 List.mem_cons_self) with e|e
   ·exact e
   ·rcases List.mem_cons.1 ((h b).2 List.mem_cons_self) with e2|e2
    ·exact e2.symm
    ·exact absurd (ha.1 b e2) (OX _ _ (hb.1 a e))
  subst e
  congr 1
  refine mq Hh OX A B ha.2 hb.2 fun y=>⟨fun hy=>?_,fun hy=>?_⟩
  ·rcases List.mem_cons.1 ((h y).1 (List.mem_cons_of_mem _ hy)) with e|e
   ·subst e;exact absurd (ha.1 y hy) (Hh y)
   ·exact e
  ·rcases List.mem_cons.1 ((h y).2 (List.mem_cons_of_mem _ hy)) with e|e
   ·subst e;exact absurd (hb.1 y hy) (Hh y)
   ·exact e
structure yp(L:List Id)(D:List Int):Prop where
 to:∀y∈L,y.1<D.length∧gD D y.1=y.2∧0≤y.2
 of:∀i,i<D.length→0≤gD D i→(i,gD D i)∈L
theorem Mf{n i:Nat}(h:i<n):gD (rep n) i=-1:=by
 rw[DE (by rw[sF];exact h)];simp[rep]
theorem J6(n:Nat):yp [] (rep n):=⟨fun y hy=>by simp at hy,fun i hi h=>by rw[sF] at hi;rw[Mf hi] at h;omega⟩
theorem yp.put{L L':List Id}{D:List Int}(h:yp L D){i:Nat}{d:Int}(hi:i<D.length)(hd:0≤d)(hn:gD D i<0)(hL:∀y,y∈L'↔y∈L∨y=(i,d)):yp L' (D.set i d):=by
 refine⟨fun y hy=>?_,fun j hj h0=>?_⟩
 ·rw[List.length_set,mA hi];rcases(hL y).1 hy with hy|hy
  ·have:=h.to y hy;rw[if_neg (by rintro rfl;omega)];exact this
  ·subst hy;rw[if_pos rfl];exact⟨hi,rfl,hd⟩
 ·rw[List.length_set] at hj;rw[mA hi] at h0⊢;rw[hL];by_cases e:j=i
  ·subst e;rw[if_pos rfl];exact .inr rfl
  ·rw[if_neg e] at h0⊢;exact .inl (h.of j hj h0)
theorem yp.remove{L L':List Id}{D:List Int}(h:yp L D){i:Nat}(hi:i<D.length)(hL:∀y,y∈L'↔y∈L∧y.1≠i):yp L' (D.set i (-1)):=by
 refine⟨fun y hy=>?_,fun j hj h0=>?_⟩
 ·have hy:=(hL y).1 hy;rw[List.length_set,mA hi,if_neg hy.2];exact h.to y hy.1
 ·rw[List.length_set] at hj;rw[mA hi] at h0⊢;rw[hL];by_cases e:j=i
  ·subst e;rw[if_pos rfl] at h0;omega
  ·rw[if_neg e] at h0⊢;exact⟨h.of j hj h0,e⟩
theorem yp.has{L:List Id}{D:List Int}(h:yp L D)(id:Int):n8 D id=true↔∃y∈L,id=(y.1:Int):=by
 simp only[n8,Bool.and_eq_true,decide_eq_true_eq];constructor
 ·rintro⟨h1,h2,h3⟩;refine⟨(id.toNat,gD D id.toNat),h.of id.toNat (by omega) h3,?_⟩;show id=((id.toNat:Nat):Int);omega
 ·rintro⟨y,hy,rfl⟩;have:=h.to y hy;refine⟨by omega,by omega,?_⟩;rw[Int.toNat_natCast,this.2.1];exact this.2.2
theorem yp.val{L:List Id}{D:List Int}(h:yp L D){y:Id}(hy:y∈L){id:Int}(e:id=(y.1:Int)):gD D id.toNat=y.2:=by
 subst e;rw[Int.toNat_natCast];exact(h.to y hy).2.1
def rD(D:List Int)(x y:Nat):Prop:=gD D x<gD D y∨(gD D x=gD D y∧x<y)
theorem Cb(D:List Int):∀i x,x∈dj D i↔x<i∧0≤gD D x
 |0,x=>by simp[dj]
 |i+1,x=>by
  have ih:=Cb D i x;unfold dj;split
  ·rw[ih];constructor
   ·rintro⟨h1,h2⟩;exact⟨by omega,h2⟩
   ·rintro⟨h1,h2⟩;refine⟨?_,h2⟩;rcases Nat.lt_or_ge x i with h|h
    ·exact h
    ·have:x=i:=by omega
     subst this;omega
  ·have hm:x∈(dj D i).take (lY (wV D i) (dj D i))∨x∈(dj D i).drop (lY (wV D i) (dj D i))↔x∈dj D i:=by
    rw[←List.mem_append,List.take_append_drop]
   simp only[List.mem_append,List.mem_singleton];constructor
   ·rintro((h|h)|h)
    ·have:=ih.1 (hm.1 (.inl h));exact⟨by omega,this.2⟩
    ·subst h;exact⟨by omega,by omega⟩
    ·have:=ih.1 (hm.1 (.inr h));exact⟨by omega,this.2⟩
   ·rintro⟨h1,h2⟩;by_cases e:x=i
    ·exact .inl (.inr e)
    ·rcases hm.2 (ih.2 ⟨by omega,h2⟩) with h|h
     ·exact .inl (.inl h)
     ·exact .inr h
theorem Gc(D:List Int):∀i,(dj D i).Pairwise (rD D)
 |0=>List.Pairwise.nil
 |i+1=>by
  have ih:=Gc D i;unfold dj;split
  ·exact ih
  ·have hlt:=uW D i;have hle:=rG (wV D i) (dj D i);have hin:=yG (wV D i) (dj D i);have BP:=yF (wV D i) (dj D i);generalize lY (wV D i) (dj D i)=K at*;generalize dj D i=l at*;have Wb:=ih;rw[List.pairwise_iff_getElem] at Wb;have get:∀j (h:j<l.length),l.getD j 0=l[j]:=fun j h=>by rw[List.getD_eq_getElem?_getD,List.getElem?_eq_getElem h];rfl
   have hT:∀x∈l.take K,rD D x i:=by
    intro x hx;obtain⟨j,hj,rfl⟩:=List.mem_iff_getElem.1 hx;rw[List.length_take] at hj;rw[List.getElem_take];have h1:=hin j (by omega);rw[get j (by omega)] at h1;have h1:gD D l[j]≤gD D i:=of_decide_eq_true h1;have h2:=hlt l[j] (List.getElem_mem _);unfold rD;omega
   have hU:∀y∈l.drop K,gD D i<gD D y:=by
    intro y hy;obtain⟨j,hj,rfl⟩:=List.mem_iff_getElem.1 hy;rw[List.length_drop] at hj;rw[List.getElem_drop];have h1:=BP (by omega);rw[get K (by omega)] at h1;have h1:¬gD D l[K]≤gD D i:=of_decide_eq_false h1;by_cases e:j=0
    ·subst e;have:gD D i<gD D l[K]:=by omega
     exact this
    ·have h2:=Wb K (K+j) (by omega) (by omega) (by omega);unfold rD at h2;omega
   rw[List.append_assoc,List.pairwise_append];have ih2:=ih;rw[←List.take_append_drop K l,List.pairwise_append] at ih2;refine⟨ih2.1,?_,?_⟩
   ·rw[List.singleton_append,List.pairwise_cons];exact⟨fun y hy=>.inl (hU y hy),ih2.2.1⟩
   ·intro x hx y hy;simp only[List.singleton_append,List.mem_cons] at hy;rcases hy with rfl|hy
    ·exact hT x hx
    ·exact ih2.2.2 x hx y hy
def Dy(D:List Int):List Id:=(dj D D.length).map fun x=>(x,gD D x)
theorem Je(D:List Int):oe (Dy D)=nl (dj D D.length):=by simp[Dy,oe,nl]
theorem Gb(D:List Int)(now:Int):oe (uD (Dy D) now)=nl (wU D now (dj D D.length)):=by
 simp only[Dy,oe,nl,uD,wU,List.filter_map,List.map_map];rfl
theorem Dz(D:List Int):(Dy D).Pairwise (fun x y=>ah x y=true):=by
 unfold Dy;rw[List.pairwise_map];refine(Gc D D.length).imp ?_;intro a b h;rw[gH];exact h
theorem B0(x:Id):¬ah x x=true:=by rw[gH];omega
theorem BZ(x y:Id):ah x y=true→¬ah y x=true:=by rw[gH,gH];omega
theorem yI{L:List Id}{D:List Int}(h:yp L D)(y:Id):y∈Dy D↔y∈L:=by
 unfold Dy;rw[List.mem_map];constructor
 ·rintro⟨x,hx,rfl⟩;have:=(Cb D D.length x).1 hx;exact h.of x this.1 this.2
 ·intro hy;have:=h.to y hy;refine⟨y.1,(Cb D D.length y.1).2 ⟨this.1,by omega⟩,?_⟩;rw[this.2.1]
theorem Ord.pw{L M:List Id}(h:Ord L M):M.Pairwise (fun x y=>ah x y=true):=by
 rw[List.pairwise_iff_getElem];intro i j hi hj hij;have h1:=h.Rr i j (Nat.zero_le _) hij hj;rw[dB hi,dB hj,eJ] at h1;rw[gH];have h2:M[i].1≠M[j].1:=by
  intro e;have:=h.dst i j hi hj (by rw[dB hi,dB hj];exact e);omega
 omega
theorem yp.jobs{L M:List Id}{D:List Int}(h:yp L D)(ho:Ord L M):M=Dy D:=
 mq B0 BZ M (Dy D) ho.pw (Dz D) fun y=>(ho.mem y).trans (yI h y).symm
theorem yp.none{L:List Id}{D:List Int}(h:yp L D):L=[]↔dj D D.length=[]:=by
 have hm:=yI h;constructor
 ·rintro rfl;cases hd:dj D D.length with
  |nil=>rfl
  |cons x l=>
   have:=(hm (x,gD D x)).1 (by rw[Dy,hd];simp);simp at this
 ·intro hd;cases L with
  |nil=>rfl
  |cons x l=>
   have:=(hm x).2 List.mem_cons_self;rw[Dy,hd] at this;simp at this
theorem yp.first{L:List Id}{D:List Int}(h:yp L D){y:Id}(hf:Dj L y){x:Nat}{l:List Nat}(hd:dj D D.length=x::l):y=(x,gD D x):=by
 have hm:=yI h;have hs:=Dz D;have e:Dy D=(x,gD D x)::l.map fun x=>(x,gD D x):=by rw[Dy,hd];rfl
 rw[e,List.pairwise_cons] at hs;have hx:(x,gD D x)∈L:=(hm _).1 (by rw[e];exact List.mem_cons_self);have hy:=(hm y).2 hf.1;rw[e] at hy;rcases List.mem_cons.1 hy with hy|hy
 ·exact hy
 ·have h1:=hs.1 y hy;have h2:=hf.2 _ hx;rw[h1] at h2;cases h2
end Ir
end Go.Proofs.Ytenafeojcgmnhaa
