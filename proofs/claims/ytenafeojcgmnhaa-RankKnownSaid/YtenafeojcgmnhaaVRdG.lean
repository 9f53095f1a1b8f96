/-
  Rank: Remove, First, Key.
-/
import Derived.Test.YtenafeojcgmnhaaVRdF
set_option maxRecDepth 100000
set_option linter.unusedSimpArgs false
set_option linter.unusedVariables false
namespace Go.Proofs.Ytenafeojcgmnhaa
open Go Ads
namespace Ir
theorem KQ{h:Heap}{k p:Nat}{S:List Nat}{L:List Id}{P:Nat→Nat}(hr:mG h k p S L P){a:Nat}(ha:a<L.length){Q:AV→Heap→Prop}
  (hQ:∀h' S' L' P',mG h' k p S' L' P'→L'.length+1=L.length→(∀y,y∈L'↔y∈L∧y.1≠(gI L a).1)→Own h h' S S'→Q (.cg []) h'):VD fs ms 43 [.ptr p 0,.int .i64 ((a:Nat):Int)] h Q:=by
 rcases hr.row with⟨hL,_,_⟩|⟨r,cap,rest,hS,rk,hcap,hh⟩
 ·subst hL;simp at ha
 obtain⟨M,x,rfl⟩:∃M x,L=M++[x]:=by
  rcases List.eq_nil_or_concat L with rfl|⟨M,x,rfl⟩
  ·simp at ha
  ·exact⟨M,x,by simp⟩
 have hl:(M++[x]).length=M.length+1:=by simp
 have xK:=hr.pl.mj;refine O4 hh (by omega) (by omega) (by omega) hr.pl hr.hp fun h' L' P' y5 k1 k2 k3 k4 fr=>?_;subst hS;refine hQ h' [k,p,r] L' P' ⟨?_,hr.ne,Nat.lt_of_lt_of_le hr.lk fr.next,y5.lp,.inr ⟨r,cap,_,rfl,rk,?_,y5⟩,k2,k3⟩ (by omega) k4 ⟨⟨fr.next,fun b hb hn=>fr.keep b hb ?_⟩,fun b hb=>.inl hb⟩
 ·rw[fr.keep k hr.lk (by simp[hr.ne,Ne.symm rk])];exact hr.hk
 ·rw[List.length_append];have:(ob x).cells.length=2:=rfl;omega
 ·simp at hn⊢;exact hn.2
theorem oT{h:Heap}{k p:Nat}{S:List Nat}{L:List Id}{P:Nat→Nat}(hr:mG h k p S L P)(id:Int){Q:AV→Heap→Prop}(h1:(∀y∈L,id≠(y.1:Int))→Q (.bool false) h)
  (h3:∀y:Id,id=(y.1:Int)→y∈L→∀h' S' L' P',mG h' k p S' L' P'→(∀z,z∈L'↔z∈L∧z.1≠y.1)→Own h h' S S'→Q (.bool true) h'):VD fs ms 16 [.ptr k 0,.int .i64 id] h Q:=by
 refine aE (af:=OB) true rfl (Nat.le_of_ble_eq_true rfl) ?_;conv=>whnf
 refine I3 hr id (fun hb=>?_) (fun i hi i64 h0=>?_) fun i j hi i64 hj hP hid=>?_
 ·conv=>whnf
  refine h1 fun y hy e=>?_;obtain⟨i,hi,rfl⟩:=bZ.1 hy;have:=hr.pl.small i hi;omega
 ·conv=>whnf
  refine h1 fun y hy e=>?_;have:=hr.pl.no h0 y hy;omega
 ·conv=>whnf
  refine⟨_,bQ hr.hk rfl,?_⟩;conv=>whnf
  refine KQ hr hj fun h' S' L' P' r1 r2 r3 r4=>?_;conv=>whnf
  exact h3 (gI L j) (by rw[hid];exact hi) (bZ.2 ⟨j,hj,rfl⟩) h' S' L' P' r1 r3 r4
theorem Row.len{h:Heap}{k p:Nat}{S:List Nat}{L:List Id}{P:Nat→Nat}(hr:Row h k p S L P):∃rv,rV .bW [.ptr p 0] h=some rv∧pV .dc [rv]=some (.int .i64 ((L.length:Nat):Int))∧∀i,i<L.length→∃r,pV (.ak 2) [rv,.int .i64 ((i:Nat):Int)]=some (.ptr r (i*2))∧rV .bW [.ptr r (i*2)] h=some (.int .i64 ((gI L i).1:Nat))∧rV .bW [.ptr r (i*2+1)] h=some (.int .i64 (gI L i).2):=by
 rcases hr with⟨hL,_,hg⟩|⟨r,cap,rest,_,_,_,hh⟩
 ·subst hL;exact⟨.aN,bQ hg rfl,rfl,fun i hi=>by simp at hi⟩
 ·exact⟨_,hh.row,rfl,fun i hi=>⟨r,bh hi,hh.id hi,hh.key hi⟩⟩
theorem uz{h:Heap}{k p:Nat}{S:List Nat}{L:List Id}{P:Nat→Nat}(hr:mG h k p S L P){Q:AV→Heap→Prop}(h1:L=[]→Q (.cg [.int .i64 0,.int .i64 0,.bool false]) h)
  (h2:0<L.length→Q (.cg [.int .i64 ((gI L 0).1:Nat),.int .i64 (gI L 0).2,.bool true]) h):VD fs ms 25 [.ptr k 0] h Q:=by
 refine aE (af:=OE) true rfl (Nat.le_of_ble_eq_true rfl) ?_;conv=>whnf
 obtain⟨rv,l1,l2,l3⟩:=hr.row.len;refine vD hr ?_;conv=>whnf
 refine⟨_,bQ hr.hk rfl,?_⟩;conv=>whnf
 refine⟨_,l1,?_⟩;conv=>whnf
 refine cM l2 ?_;conv=>whnf
 refine br (fun hc=>?_) (fun hc=>?_)<;>(try rw[hc])<;>(conv=>whnf)
 ·refine h1 (List.eq_nil_of_length_eq_zero ?_);simp at hc;simp[hc]
 ·have hl:0<L.length:=by
   refine Nat.pos_of_ne_zero fun h0=>?_;simp[List.eq_nil_of_length_eq_zero h0] at hc
  obtain⟨r,l4,l5,l6⟩:=l3 0 hl;refine⟨_,bQ hr.hk rfl,?_⟩;conv=>whnf
  refine⟨_,l1,?_⟩;conv=>whnf
  refine⟨_,l4,?_⟩;conv=>whnf
  refine⟨_,l5,?_⟩;conv=>whnf
  refine⟨_,bQ hr.hk rfl,?_⟩;conv=>whnf
  refine⟨_,l1,?_⟩;conv=>whnf
  refine⟨_,l4,?_⟩;conv=>whnf
  refine⟨_,l6,?_⟩;conv=>whnf
  exact h2 hl
theorem Ho{h:Heap}{k p:Nat}{S:List Nat}{L:List Id}{P:Nat→Nat}(hr:mG h k p S L P)(id:Int){Q:AV→Heap→Prop}(h1:(∀y∈L,id≠(y.1:Int))→Q (.cg [.int .i64 0,.bool false]) h)
  (h2:∀y:Id,id=(y.1:Int)→y∈L→Q (.cg [.int .i64 y.2,.bool true]) h):VD fs ms 26 [.ptr k 0,.int .i64 id] h Q:=by
 refine aE (af:=OF) true rfl (Nat.le_of_ble_eq_true rfl) ?_;conv=>whnf
 refine I3 hr id (fun hb=>?_) (fun i hi i64 h0=>?_) fun i j hi i64 hj hP hid=>?_
 ·conv=>whnf
  refine h1 fun y hy e=>?_;obtain⟨i,hi,rfl⟩:=bZ.1 hy;have:=hr.pl.small i hi;omega
 ·conv=>whnf
  refine h1 fun y hy e=>?_;have:=hr.pl.no h0 y hy;omega
 ·conv=>whnf
  obtain⟨rv,l1,l2,l3⟩:=hr.row.len;obtain⟨r,l4,l5,l6⟩:=l3 j hj;refine⟨_,bQ hr.hk rfl,?_⟩;conv=>whnf
  refine⟨_,l1,?_⟩;conv=>whnf
  refine⟨_,l4,?_⟩;conv=>whnf
  refine⟨_,l6,?_⟩;conv=>whnf
  exact h2 (gI L j) (by rw[hid];exact hi) (bZ.2 ⟨j,hj,rfl⟩)
end Ir
end Go.Proofs.Ytenafeojcgmnhaa
