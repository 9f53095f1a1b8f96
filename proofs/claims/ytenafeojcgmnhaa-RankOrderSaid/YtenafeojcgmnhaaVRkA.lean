/-
  Rank: Lower, Pop, Len.
-/
import Derived.Test.YtenafeojcgmnhaaVRdG
set_option maxRecDepth 100000
set_option linter.unusedSimpArgs false
set_option linter.unusedVariables false
namespace Go.Proofs.Ytenafeojcgmnhaa
open Go Ads
namespace Ir
theorem D0:∀(L:List Id) (i:Nat) (_:i<L.length) (k:Int) (rest:List AV),Heap.splice (oc L++rest) (i*2+1) [.int .i64 k]=oc (L.set i ((gI L i).1,k))++rest
 |y::L,0,_,k,rest=>by
  show AV.int .i64 (y.1:Nat)::AV.int .i64 k::Heap.splice (oc L++rest) 0 []=AV.int .i64 (y.1:Nat)::AV.int .i64 k::(oc L++rest);rw[ez]
 |y::L,i+1,h,k,rest=>by
  have ih:=D0 L i (by simpa using h) k rest;show Heap.splice (AV.int .i64 (y.1:Nat)::AV.int .i64 y.2::(oc L++rest)) ((i+1)*2+1) _=AV.int .i64 (y.1:Nat)::AV.int .i64 y.2::(oc (L.set i ((gI L i).1,k))++rest);rw[show(i+1)*2+1=i*2+1+1+1 by omega,←ih];rfl
theorem J3{L:List Id}{P:Nat→Nat}(h:qt L P){j:Nat}(hj:j<L.length)(k:Int):qt (L.set j ((gI L j).1,k)) P:=by
 have e:∀i,(gI (L.set j ((gI L j).1,k)) i).1=(gI L i).1:=by
  intro i;rw[nB hj];split
  ·rename_i e;rw[e]
  ·rfl
 refine⟨fun i hi=>?_,fun i hi=>?_,fun d hd hp=>?_⟩
 ·rw[e];exact h.small i (by simpa using hi)
 ·rw[e];exact h.pl i (by simpa using hi)
 ·rw[e,List.length_set];exact h.back d hd hp
theorem J1{L:List Id}(h:Hp L){j:Nat}(hj:j<L.length){x:Id}:IJ (L.set j x) j:=by
 refine⟨fun i h0 hi h1 h2=>?_,fun c h0 hc hp h1=>?_⟩
 ·rw[hG hj h1,hG hj h2];exact h i h0 (by simpa using hi)
 ·rw[List.length_set] at hc;rw[hG hj (by omega),hG hj (by omega)];have k1:=h c h0 hc;have k2:=h j h1 hj;rw[hp] at k1;exact mL k1 k2
theorem J0{L:List Id}(h:Hp L){j:Nat}(hj:j<L.length){k:Int}(hk:k≤(gI L j).2):IY (L.set j ((gI L j).1,k)) j:=by
 intro c h0 hc hp;rw[List.length_set] at hc;rw[hG hj (by omega),mR hj];have k1:=h c h0 hc;rw[hp,eJ] at k1;rw[eJ];simp only;omega
theorem J2{L:List Id}{P:Nat→Nat}(h:qt L P){j:Nat}(hj:j<L.length)(k:Int)(z:Id):z∈L.set j ((gI L j).1,k)↔(z∈L∧z.1≠(gI L j).1)∨z=((gI L j).1,k):=by
 rw[bZ,bZ];constructor
 ·rintro⟨i,hi,e⟩;rw[List.length_set] at hi;rw[nB hj] at e;split at e
  ·exact .inr e.symm
  ·rename_i hne;subst e;exact .inl ⟨⟨i,hi,rfl⟩,fun e=>hne (h.oz i j hi hj e)⟩
 ·rintro(⟨⟨i,hi,e⟩,hne⟩|rfl)
  ·refine⟨i,by rw[List.length_set];exact hi,?_⟩;rw[hG hj,e];rintro rfl;rw[e] at hne;exact hne rfl
  ·exact⟨j,by rw[List.length_set];exact hj,mR hj⟩
theorem pQ{h:Heap}{k p:Nat}{S:List Nat}{L:List Id}{P:Nat→Nat}(hr:mG h k p S L P)(id key:Int){Q:AV→Heap→Prop}(h1:id<0∨64≤id→Q (.int .i64 9) h)
  (h2:¬(id<0∨64≤id)→(∀y∈L,id≠(y.1:Int))→Q (.int .i64 8) h)
  (h3:∀y:Id,id=(y.1:Int)→y∈L→y.2<key→Q (.int .i64 2) h)
  (h4:∀y:Id,id=(y.1:Int)→y∈L→key≤y.2→∀h' S' L' P',mG h' k p S' L' P'→(∀z,z∈L'↔(z∈L∧z.1≠y.1)∨z=(y.1,key))→Own h h' S S'→Q (.int .i64 0) h'):VD fs ms 15 [.ptr k 0,.int .i64 id,.int .i64 key] h Q:=by
 refine aE (af:=OA) true rfl (Nat.le_of_ble_eq_true rfl) ?_;conv=>whnf
 refine yz hr id ?_;conv=>whnf
 by_cases hb:id<0∨64≤id
 ·rw[if_pos hb];conv=>whnf
  exact h1 hb
 rw[if_neg hb];conv=>whnf
 refine I3 hr id (fun h=>absurd h hb) (fun i hi i64 h0=>?_) fun i j hi i64 hj hP hid=>?_
 ·conv=>whnf
  refine h2 hb fun y hy e=>?_;have:=hr.pl.no h0 y hy;omega
 ·conv=>whnf
  have EO:gI L j∈L:=bZ.2 ⟨j,hj,rfl⟩;have Qa:id=((gI L j).1:Int):=by rw[hid];exact hi
  rcases hr.row with⟨hL,_,_⟩|⟨r,cap,rest,hS,rk,hcap,hh⟩
  ·subst hL;simp at hj
  refine⟨_,bQ hr.hk rfl,?_⟩;conv=>whnf
  refine⟨_,hh.row,?_⟩;conv=>whnf
  refine⟨_,bh hj,?_⟩;conv=>whnf
  refine⟨_,hh.key hj,?_⟩;conv=>whnf
  refine br (fun hc=>?_) (fun hc=>?_)<;>(try rw[hc])<;>(conv=>whnf)
  ·exact h3 _ Qa EO (of_decide_eq_true hc)
  ·have hle:key≤(gI L j).2:=by have:=of_decide_eq_false hc;omega
   refine⟨_,bQ hr.hk rfl,?_⟩;conv=>whnf
   refine⟨_,hh.row,?_⟩;conv=>whnf
   refine⟨_,bh hj,?_⟩;conv=>whnf
   have y8:=iX L;refine bA (fQ hh.hr rfl (by rw[List.length_append];show j*2+1+1≤_;omega) rfl) fun g1 e1=>?_;conv=>whnf
   have hkp:k≠p:=hr.ne;have uu:mJ g1 p r cap true (L.set j ((gI L j).1,key)) P rest:=by
    refine⟨?_,?_,hh.ne,?_,?_⟩
    ·rw[e1,bw hh.ne,List.length_set];exact hh.hp
    ·rw[e1,aV,←D0 L j hj key rest];rfl
    ·rw[e1];exact hh.lp
    ·rw[e1];exact hh.lr
   have gk1:g1.get k=some (.cells [.ptr p 0] true 0):=by rw[e1,bw (Ne.symm rk)];exact hr.hk
   have sP:Fr h g1 [p,r]:=by rw[e1];exact(Fr.refl h [p,r]).set (by simp)
   clear e1;refine⟨_,bQ gk1 rfl,?_⟩;conv=>whnf
   have hpf:=J3 hr.pl hj key;have hjl:j<(L.set j ((gI L j).1,key)).length:=by rw[List.length_set];exact hj
   have xK:=hr.pl.mj;refine NO uu hjl (by rw[List.length_set];omega) (hpf.Vn hjl) (J1 hr.hp hj) fun g4 L4 P4 a4 K9 k1 k2 k3 k4 k5 k6 k7 wL=>?_;conv=>whnf
   have fr:=sP.trans wL;rw[List.length_set] at k1;refine h4 (gI L j) Qa EO hle g4 S L4 P4 ⟨?_,hr.ne,Nat.lt_of_lt_of_le hr.lk fr.next,K9.lp,.inr ⟨r,cap,rest,hS,rk,by omega,K9⟩,k3,k4.full (k7 (J0 hr.hp hj hle))⟩ (fun z=>?_) ⟨⟨fr.next,fun b hb hn=>fr.keep b hb ?_⟩,fun b hb=>.inl hb⟩
   ·rw[fr.keep k hr.lk (by simp[hr.ne,Ne.symm rk])];exact hr.hk
   ·rw[k6.mem];exact J2 hr.pl hj key z
   ·rw[hS] at hn;simp at hn⊢;exact hn.2
def NY(L:List Id)(x:Id):Prop:=x∈L∧∀y∈L,ah y x=false
theorem Qq{L:List Id}(h:Hp L)(hl:0<L.length):NY L (gI L 0):=by
 refine⟨bZ.2 ⟨0,hl,rfl⟩,fun y hy=>?_⟩;obtain⟨i,hi,rfl⟩:=bZ.1 hy;clear hy;induction i using Nat.strongRecOn with
 |ind i ih=>
  rcases Nat.eq_zero_or_pos i with rfl|h0
  ·rw[eJ];omega
  ·exact mL (h i h0 hi) (ih ((i-1)/2) (by omega) (by omega))
theorem D7{h:Heap}{k p:Nat}{S:List Nat}{L:List Id}{P:Nat→Nat}(hr:mG h k p S L P){Q:AV→Heap→Prop}(h1:L=[]→Q (.cg [.int .i64 0,.int .i64 0,.bool false]) h)
  (h2:∀x,NY L x→∀h' S' L' P',mG h' k p S' L' P'→L'.length+1=L.length→(∀y,y∈L'↔y∈L∧y.1≠x.1)→Own h h' S S'→Q (.cg [.int .i64 (x.1:Nat),.int .i64 x.2,.bool true]) h'):VD fs ms 18 [.ptr k 0] h Q:=by
 refine aE (af:=OD) true rfl (Nat.le_of_ble_eq_true rfl) ?_;conv=>whnf
 refine uz hr (fun hL=>?_) fun hl=>?_
 ·conv=>whnf
  exact h1 hL
 ·conv=>whnf
  refine⟨_,bQ hr.hk rfl,?_⟩;conv=>whnf
  refine KQ hr (a:=0) hl fun h' S' L' P' k1 k2 k3 k4=>?_;conv=>whnf
  exact h2 _ (Qq hr.hp hl) h' S' L' P' k1 k2 k3 k4
theorem Hy{h:Heap}{k p:Nat}{S:List Nat}{L:List Id}{P:Nat→Nat}(hr:mG h k p S L P){Q:AV→Heap→Prop}(hQ:Q (.int .i64 ((L.length:Nat):Int)) h):VD fs ms 17 [.ptr k 0] h Q:=by
 refine aE (af:=OC) true rfl (Nat.le_of_ble_eq_true rfl) ?_;conv=>whnf
 obtain⟨rv,l1,l2,l3⟩:=hr.row.len;refine vD hr ?_;conv=>whnf
 refine⟨_,bQ hr.hk rfl,?_⟩;conv=>whnf
 refine aE (af:=RQ) true rfl (Nat.le_of_ble_eq_true rfl) ?_;conv=>whnf
 refine⟨_,l1,?_⟩;conv=>whnf
 refine cM l2 ?_;conv=>whnf
 exact hQ
theorem zJ{α:Type} [DecidableEq α]:∀(A B:List α),A.Nodup→(∀x∈A,x∈B)→A.length≤B.length
 |[],B,_,_=>Nat.zero_le _
 |x::A,B,hn,h=>by
  rw[List.nodup_cons] at hn;have hx:=h x List.mem_cons_self;have:=zJ A (B.erase x) hn.2 (fun y hy=>by
   have hne:y≠x:=by rintro rfl;exact hn.1 hy
   exact(List.mem_erase_of_ne hne).2 (h y (List.mem_cons_of_mem _ hy)))
  rw[List.length_erase_of_mem hx] at this;have:=List.length_pos_of_mem hx;simp only[List.length_cons];omega
theorem qt.nd{L:List Id}{P:Nat→Nat}(h:qt L P):L.Nodup:=by
 show List.Pairwise (· ≠·) _;rw[List.pairwise_iff_getElem];intro i j hi hj hij e;have:=h.oz i j hi hj (by rw[dB hi,dB hj,e]);omega
theorem vv{A B:List Id}(ha:A.Nodup)(hb:B.Nodup)(h:∀y,y∈A↔y∈B):A.length=B.length:=
 Nat.le_antisymm (zJ A B ha fun x hx=>(h x).1 hx) (zJ B A hb fun x hx=>(h x).2 hx)
theorem ze{A B:List Id}(ha:A.Nodup)(hb:B.Nodup){x:Id}(hx:x∉B)(h:∀y,y∈A↔y∈B∨y=x):A.length=B.length+1:=by
 have:=vv (B:=x::B) ha (List.nodup_cons.2 ⟨hx,hb⟩) fun y=>by rw[h,List.mem_cons,or_comm]
 simpa using this
theorem zf{A B:List Id}(ha:A.Nodup)(hb:B.Nodup){x:Id}(hx:x∈B)(hu:∀y∈B,y.1=x.1→y=x)(h:∀y,y∈A↔y∈B∧y.1≠x.1):A.length+1=B.length:=by
 have:=ze (A:=B) (B:=A) hb ha (x:=x) (fun hm=>((h x).1 hm).2 rfl) fun y=>by
  rw[h];constructor
  ·intro hy;by_cases e:y.1=x.1
   ·exact .inr (hu y hy e)
   ·exact .inl ⟨hy,e⟩
  ·rintro(h1|rfl)
   ·exact h1.1
   ·exact hx
 omega
end Ir
end Go.Proofs.Ytenafeojcgmnhaa
