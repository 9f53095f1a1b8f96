/-
  Ready: a queue in a heap.
-/
import Derived.Test.YtenafeojcgmnhaaVRdJ
set_option maxRecDepth 100000
set_option linter.unusedSimpArgs false
set_option linter.unusedVariables false
namespace Go.Proofs.Ytenafeojcgmnhaa
open Go Ads
namespace Ir
structure sU(h:Heap)(q:Nat)(S:List Nat)(n:Int)(L:List Id):Prop where
 ex:∃k p S' P,S=q::S'∧q∉S'∧mG h k p S' L P∧h.get q=some (.cells [.ptr k 0,.int .i64 n] true 0)∧q<h.next
 n4:n≤4
 ids:∀y∈L,(y.1:Int)<n
theorem sU.own{h:Heap}{q:Nat}{S:List Nat}{n:Int}{L:List Id}(hq:sU h q S n L):∀b∈S,b<h.next:=by
 obtain⟨k,p,S',P,rfl,hn,hr,hg,hl⟩:=hq.ex;intro b hb;rcases List.mem_cons.1 hb with rfl|hb
 ·exact hl
 ·exact hr.own.2.2 b hb
theorem sU.dst{h:Heap}{q:Nat}{S:List Nat}{n:Int}{L:List Id}(hq:sU h q S n L):FB L:=by
 obtain⟨k,p,S',P,rfl,hn,hr,hg,hl⟩:=hq.ex;exact hr.pl.oz
theorem sU.uniq{h:Heap}{q:Nat}{S:List Nat}{n:Int}{L:List Id}(hq:sU h q S n L){x y:Id}(hx:x∈L)(hy:y∈L)(e:x.1=y.1):x=y:=by
 obtain⟨k,p,S',P,rfl,hn,hr,hg,hl⟩:=hq.ex;exact hr.pl.uniq hx hy e
theorem mG.few{h:Heap}{k p:Nat}{S:List Nat}{L:List Id}{P:Nat→Nat}(hr:mG h k p S L P){n:Int}(h4:n≤4)(hi:∀y∈L,(y.1:Int)<n):L.length≤4:=
 hr.pl.len fun y hy=>by have:=hi y hy;omega
theorem mG.keep{h h':Heap}{k p:Nat}{S T:List Nat}{L:List Id}{P:Nat→Nat}(hr:mG h k p S L P)(fr:Fr h h' T)(hd:∀b∈S,b∉T):mG h' k p S L P:=by
 obtain⟨kS,pS,hS⟩:=hr.own;refine⟨by rw[fr.keep k hr.lk (hd k kS)];exact hr.hk,hr.ne,Nat.lt_of_lt_of_le hr.lk fr.next,Nat.lt_of_lt_of_le hr.lp fr.next,?_,hr.pl,hr.hp⟩;rcases hr.row with⟨h1,h2,h3⟩|⟨r,cap,rest,h1,h2,h3,h4⟩
 ·exact .inl ⟨h1,h2,by rw[fr.keep p hr.lp (hd p pS)];exact h3⟩
 ·have rS:r∈S:=by rw[h1];simp
  exact .inr ⟨r,cap,rest,h1,h2,h3,⟨by rw[fr.keep p hr.lp (hd p pS)];exact h4.hp,by rw[fr.keep r h4.lr (hd r rS)];exact h4.hr,h4.ne,Nat.lt_of_lt_of_le h4.lp fr.next,Nat.lt_of_lt_of_le h4.lr fr.next⟩⟩
theorem sU.keep{h h':Heap}{q:Nat}{S T:List Nat}{n:Int}{L:List Id}(hq:sU h q S n L)(fr:Fr h h' T)(hd:∀b∈S,b∉T):sU h' q S n L:=by
 obtain⟨k,p,S',P,rfl,hn,hr,hg,hl⟩:=hq.ex;exact⟨⟨k,p,S',P,rfl,hn,hr.keep fr fun b hb=>hd b (List.mem_cons_of_mem _ hb),by rw[fr.keep q hl (hd q List.mem_cons_self)];exact hg,Nat.lt_of_lt_of_le hl fr.next⟩,hq.n4,hq.ids⟩
theorem vT{h:Heap}{Q:AV→Heap→Prop}(hQ:∀h' k p,mG h' k p [k,p] [] (fun _=>0)→h.next≤k→h.next≤p→Fr h h' []→Q (.ptr k 0) h'):VD fs ms 12 [] h Q:=by
 refine aE (af:=RB) true rfl (Nat.le_of_ble_eq_true rfl) ?_;conv=>whnf
 refine hQ _ (h.next+1) h.next ⟨?_,by omega,?_,?_,.inl ⟨rfl,rfl,?_⟩,?_,?_⟩ (by omega) (by omega) ((Fr.refl h []).new.new)
 ·exact aB (h:=h.new _)
 ·exact Nat.lt_succ_self _
 ·show h.next<h.next+1+1;omega
 ·refine(aH (h:=h.new _) (Nat.lt_succ_self _)).trans (aB.trans ?_);rfl
 ·refine⟨?_,?_,?_⟩
  ·intro i hi;simp at hi
  ·intro i hi;simp at hi
  ·intro d _ hd;simp at hd
 ·intro i _ hi;simp at hi
theorem Bg{h:Heap}(n:Int){Q:AV→Heap→Prop}(h1:n<0∨4<n→Q (.cg [.de,.int .i64 2]) h)
  (h2:0≤n→n≤4→∀h' q S,sU h' q S n []→(∀b∈S,h.next≤b)→Fr h h' []→Q (.cg [.ptr q 0,.int .i64 0]) h'):VD fs ms 27 [.int .i64 n] h Q:=by
 refine aE (af:=RI) true rfl (Nat.le_of_ble_eq_true rfl) ?_;conv=>whnf
 refine br (fun hc=>?_) (fun hc=>?_)<;>(try rw[hc])<;>(conv=>whnf)
 ·exact h1 (.inl (of_decide_eq_true hc))
 ·have hn0:¬n<0:=of_decide_eq_false hc;refine br (fun hc=>?_) (fun hc=>?_)<;>(try rw[hc])<;>(conv=>whnf)
  ·exact h1 (.inr (of_decide_eq_true hc))
  ·have hn4:¬4<n:=of_decide_eq_false hc;refine vT fun h' k p hr hk hp fr=>?_;conv=>whnf
   have lk:=hr.lk;have lp:=hr.lp;refine h2 (by omega) (by omega) _ h'.next (h'.next::[k,p]) ⟨⟨k,p,[k,p],_,rfl,by simp;omega,hr.keep (Fr.refl h' []).new (by simp),aB,Nat.lt_succ_self _⟩,by omega,fun y hy=>by simp at hy⟩ ?_ ?_
   ·intro b hb;simp at hb;have:=fr.next;omega
   ·exact fr.new
theorem sB{h:Heap}{q:Nat}{S:List Nat}{n:Int}{L:List Id}(hq:sU h q S n L){Q:AV→Heap→Prop}(hQ:Q (.bool false) h):VD fs ms 58 [.ptr q 0] h Q:=by
 obtain⟨k,p,S',P,rfl,hn,hr,hg,hl⟩:=hq.ex;refine aE (af:=NX) true rfl (Nat.le_of_ble_eq_true rfl) ?_;conv=>whnf
 refine⟨_,bQ hg rfl,?_⟩;conv=>whnf
 exact hQ
theorem oP{h:Heap}{q:Nat}{S:List Nat}{n:Int}{L:List Id}(hq:sU h q S n L)(id d:Int){Q:AV→Heap→Prop}(h1:id<0∨n≤id→Q (.int .i64 9) h)(h2:¬(id<0∨n≤id)→d<0∨1099511627840<d→Q (.int .i64 2) h)
  (h3:¬(id<0∨n≤id)→¬(d<0∨1099511627840<d)→∀y∈L,id=(y.1:Int)→Q (.int .i64 141) h)
  (h4:¬(d<0∨1099511627840<d)→∀i:Nat,id=i→id<n→(∀y∈L,y.1≠i)→∀h' S' L',sU h' q S' n L'→(∀y,y∈L'↔y∈L∨y=(i,d))→Own h h' S S'→Q (.int .i64 0) h'):VD fs ms 29 [.ptr q 0,.int .i64 id,.int .i64 d] h Q:=by
 refine aE (af:=OG) true rfl (Nat.le_of_ble_eq_true rfl) ?_;conv=>whnf
 refine sB hq ?_;obtain⟨k,p,S',P,rfl,hn,hr,hg,hl⟩:=hq.ex;conv=>whnf
 have tail:¬(id<0∨n≤id)→¬(d<0∨1099511627840<d)→∀K:AV→Heap→Prop,(∀v h',Q v h'→K v h')→VD fs ms 14 [.ptr k 0,.int .i64 id,.int .i64 d] h K:=by
  intro a1 a2 K hK;refine uc hr id d (fun hb=>?_) (fun y hy e=>hK _ _ (h3 a1 a2 y hy e)) fun i hi i64 hno h' S1 L' P' r1 r2 r3=>?_
  ·have:=hq.n4;omega
  ·have hown:=hr.own.2.2;refine hK _ _ (h4 a2 i hi (by omega) hno h' (q::S1) L' ⟨⟨k,p,S1,P',rfl,?_,r1,?_,Nat.lt_of_lt_of_le hl r3.fr.next⟩,hq.n4,?_⟩ r2 ⟨⟨r3.fr.next,fun b hb hnb=>r3.fr.keep b hb (by simp at hnb;exact hnb.2)⟩,?_⟩)
   ·intro hm;rcases r3.new q hm with h|h
    ·exact hn h
    ·omega
   ·rw[r3.fr.keep q hl hn];exact hg
   ·intro y hy;rcases(r2 y).1 hy with h|h
    ·exact hq.ids y h
    ·subst h;show(i:Int)<n;omega
   ·intro b hb;rcases List.mem_cons.1 hb with rfl|hb
    ·exact .inl List.mem_cons_self
    ·rcases r3.new b hb with h|h
     ·exact .inl (List.mem_cons_of_mem _ h)
     ·exact .inr h
 refine br (fun hc=>?_) (fun hc=>?_)<;>(try rw[hc])<;>(conv=>whnf)
 ·exact h1 (.inl (of_decide_eq_true hc))
 ·have i0:¬id<0:=of_decide_eq_false hc;refine⟨_,bQ hg rfl,?_⟩;conv=>whnf
  refine br (fun hc=>?_) (fun hc=>?_)<;>(try rw[hc])<;>(conv=>whnf)
  ·exact h1 (.inr (of_decide_eq_true hc))
  ·have i1:¬n≤id:=of_decide_eq_false hc;have hin:¬(id<0∨n≤id):=by omega
   refine br (fun hc=>?_) (fun hc=>?_)<;>(try rw[hc])<;>(conv=>whnf)
   ·exact h2 hin (.inl (of_decide_eq_true hc))
   ·have d0:¬d<0:=of_decide_eq_false hc;refine br (fun hc=>?_) (fun hc=>?_)<;>(try rw[hc])<;>(conv=>whnf)
    ·exact h2 hin (.inr (of_decide_eq_true hc))
    ·have d1:¬1099511627840<d:=of_decide_eq_false hc;refine⟨_,bQ hg rfl,?_⟩;conv=>whnf
     refine tail hin (by omega) _ fun v h' hv=>?_;conv=>whnf
     exact hv
theorem p8{h:Heap}{q:Nat}{S:List Nat}{n:Int}{L:List Id}(hq:sU h q S n L)(id:Int){Q:AV→Heap→Prop}(h1:(∀y∈L,id≠(y.1:Int))→Q (.bool false) h)
  (h2:∀y:Id,id=(y.1:Int)→y∈L→∀h' S' L',sU h' q S' n L'→(∀z,z∈L'↔z∈L∧z.1≠y.1)→Own h h' S S'→Q (.bool true) h'):VD fs ms 31 [.ptr q 0,.int .i64 id] h Q:=by
 refine aE (af:=OH) true rfl (Nat.le_of_ble_eq_true rfl) ?_;conv=>whnf
 refine sB hq ?_;obtain⟨k,p,S',P,rfl,hn,hr,hg,hl⟩:=hq.ex;conv=>whnf
 refine⟨_,bQ hg rfl,?_⟩;conv=>whnf
 refine oT hr id (fun hno=>?_) fun y hy EO h' S1 L' P' r1 r2 r3=>?_
 ·conv=>whnf
  exact h1 hno
 ·conv=>whnf
  refine h2 y hy EO h' (q::S1) L' ⟨⟨k,p,S1,P',rfl,?_,r1,?_,Nat.lt_of_lt_of_le hl r3.fr.next⟩,hq.n4,fun z hz=>hq.ids z ((r2 z).1 hz).1⟩ r2 ⟨⟨r3.fr.next,fun b hb hnb=>r3.fr.keep b hb (by simp at hnb;exact hnb.2)⟩,?_⟩
  ·intro hm;rcases r3.new q hm with h|h
   ·exact hn h
   ·omega
  ·rw[r3.fr.keep q hl hn];exact hg
  ·intro b hb;rcases List.mem_cons.1 hb with rfl|hb
   ·exact .inl List.mem_cons_self
   ·rcases r3.new b hb with h|h
    ·exact .inl (List.mem_cons_of_mem _ h)
    ·exact .inr h
def Dj(L:List Id)(x:Id):Prop:=x∈L∧∀y∈L,ah y x=false
theorem GY{L:List Id}(h:Hp L)(hl:0<L.length):Dj L (gI L 0):=by
 refine⟨bZ.2 ⟨0,hl,rfl⟩,fun y hy=>?_⟩;obtain⟨i,hi,rfl⟩:=bZ.1 hy;clear hy;induction i using Nat.strongRecOn with
 |ind i ih=>
  rcases Nat.eq_zero_or_pos i with rfl|h0
  ·rw[eJ];omega
  ·exact mL (h i h0 hi) (ih ((i-1)/2) (by omega) (by omega))
theorem sy{h:Heap}{q:Nat}{S:List Nat}{n:Int}{L:List Id}(hq:sU h q S n L){Q:AV→Heap→Prop}(h1:L=[]→Q (.cg [.int .i64 0,.int .i64 0,.bool false]) h)
  (h2:∀x,Dj L x→Q (.cg [.int .i64 (x.1:Nat),.int .i64 x.2,.bool true]) h):VD fs ms 37 [.ptr q 0] h Q:=by
 refine aE (af:=OJ) true rfl (Nat.le_of_ble_eq_true rfl) ?_;conv=>whnf
 refine sB hq ?_;obtain⟨k,p,S',P,rfl,hn,hr,hg,hl⟩:=hq.ex;conv=>whnf
 refine⟨_,bQ hg rfl,?_⟩;conv=>whnf
 refine uz hr (fun hL=>?_) fun AY=>?_
 ·conv=>whnf
  exact h1 hL
 ·conv=>whnf
  exact h2 _ (GY hr.hp AY)
theorem zo{h:Heap}{q:Nat}{S:List Nat}{n:Int}{L:List Id}(hq:sU h q S n L)(id:Int){Q:AV→Heap→Prop}(h1:(∀y∈L,id≠(y.1:Int))→Q (.cg [.int .i64 0,.bool false]) h)
  (h2:∀y:Id,id=(y.1:Int)→y∈L→Q (.cg [.int .i64 y.2,.bool true]) h):VD fs ms 39 [.ptr q 0,.int .i64 id] h Q:=by
 refine aE (af:=OL) true rfl (Nat.le_of_ble_eq_true rfl) ?_;conv=>whnf
 refine sB hq ?_;obtain⟨k,p,S',P,rfl,hn,hr,hg,hl⟩:=hq.ex;conv=>whnf
 refine⟨_,bQ hg rfl,?_⟩;conv=>whnf
 refine Ho hr id (fun hno=>?_) fun y hy EO=>?_
 ·conv=>whnf
  exact h1 hno
 ·conv=>whnf
  exact h2 y hy EO
theorem sA{h:Heap}{q:Nat}{S:List Nat}{n:Int}{L:List Id}(hq:sU h q S n L){Q:AV→Heap→Prop}(hQ:∀h' v M,dr h.next h' v (oe M)→Ord L M→M.length≤4→Fr h h' []→Q v h'):VD fs ms 38 [.ptr q 0] h Q:=by
 refine aE (af:=OK) true rfl (Nat.le_of_ble_eq_true rfl) ?_;conv=>whnf
 refine sB hq ?_;obtain⟨k,p,S',P,rfl,hn,hr,hg,hl⟩:=hq.ex;conv=>whnf
 have Wt:=hr.few hq.n4 hq.ids;refine⟨_,bQ hg rfl,?_⟩;conv=>whnf
 refine JO hr (by omega) fun h' v M k1 k2 k3=>?_;conv=>whnf
 exact hQ h' v M k1 k2 (by have:=k2.len;omega) k3
theorem dr.read{lo:Nat}{h:Heap}{v:AV}{l:List Int}(hr:dr lo h v l):pV .dc [v]=some (.int .i64 ((l.length:Nat):Int))∧∀i,i<l.length→∃b,pV (.ak 1) [v,.int .i64 ((i:Nat):Int)]=some (.ptr b (i*1))∧rV .bW [.ptr b (i*1)] h=some (.int .i64 (l.getD i 0)):=by
 rcases hr with⟨rfl,rfl⟩|⟨b,h1,h2,rfl,h4⟩
 ·exact⟨rfl,fun i hi=>by simp at hi⟩
 ·refine⟨rfl,fun i hi=>⟨b,?_,bQ h4 ?_⟩⟩
  ·exact bh hi
  ·rw[Nat.mul_one,ints,List.getElem?_map,List.getD_eq_getElem?_getD,List.getElem?_eq_getElem hi];rfl
theorem y9{M:List Id}{i:Nat}(h:i<M.length):(oe M).getD i 0=((gI M i).1:Int):=by
 rw[List.getD_eq_getElem?_getD,oe,List.getElem?_map,List.getElem?_eq_getElem h,dB h];rfl
def uD(M:List Id)(now:Int):List Id:=M.filter fun y=>decide (y.2≤now)
theorem Hw{M:List Id}{now:Int}{i:Nat}(h:i<M.length):oe (uD (M.take (i+1)) now)=oe (uD (M.take i) now)++(if(gI M i).2≤now then [((gI M i).1:Int)] else []):=by
 rw[List.take_succ_eq_append_getElem h,dB h,uD,List.filter_append,oe,List.map_append]
 congr 1
 by_cases hh:M[i].2≤now<;>simp[hh]
def Nf(q:Nat)(now:Int)(out v:AV)(N i:Nat):List (Nat×AV):=[(0,.ptr q 0),(1,.int .i64 now),(4,out),(10,v),(11,.int .i64 ((N:Nat):Int)),(12,.int .i64 ((i:Nat):Int))]
theorem uE(M:List Id)(now:Int):(uD M now).length≤M.length:=List.length_filter_le ..
theorem EV{q:Nat}{S:List Nat}{n now:Int}{L M:List Id}{N:Nat}{v:AV}{h0:Heap}{B:Nat}{Q:AX→Env→Heap→Prop}(hN:M.length=N)(h4:N≤4)(hM:∀y,y∈M→y∈L)(hS0:∀b∈S,b<h0.next):
  ∀(k i:Nat) (h:Heap) (out:AV) (env:Env),N-i=k→sU h q S n L→i≤N→dr h0.next h v (oe M)→dr h0.next h out (oe (uD (M.take i) now))→(∀c,qo v c∨(qo out c∧c<h.next))→Fr h0 h []→
  aW env (Nf q now out v N i)→
  (∀(h':Heap) (out':AV) (e':Env),Tr.get e' 4=some out'→dr h0.next h' out' (oe (uD M now))→Fr h0 h' []→Q (.exit 0) e' h')→
  VC fs ms B false (.loop jV) env h Q:=by
 intro k;induction k using Nat.strongRecOn with
 |ind k ih=>
 intro i h out env hk hq hi hv hr ho kC bM hQ;refine an 4 (Nf q now out v N i) bM ?_;refine bB (z:=true) ?_;unfold Nf;conv=>whnf
 refine br (fun hc=>?_) (fun hc=>?_)<;>(try rw[hc])<;>(conv=>whnf)
 ·have hlt:i<M.length:=by have:=of_decide_eq_true hc;omega
  obtain⟨b,r1,r2⟩:=hv.read.2 i (by rw[dw];exact hlt);rw[y9 hlt] at r2;refine⟨_,r1,?_⟩;conv=>whnf
  refine⟨_,r2,?_⟩;conv=>whnf
  have hy:gI M i∈L:=hM _ (bZ.2 ⟨i,hlt,rfl⟩);refine zo hq _ (fun hno=>absurd rfl (hno _ hy)) fun y e EO=>?_;have e2:gI M i=y:=hq.uniq hy EO (by omega);subst e2;conv=>whnf
  have hlo:=kC.next;have uv:=Hw (now:=now) hlt;have Oh:=uE (M.take i) now;rw[List.length_take] at Oh;refine br (fun hc=>?_) (fun hc=>?_)<;>(try rw[hc])<;>(conv=>whnf)
  ·have hle:(gI M i).2≤now:=of_decide_eq_true hc;rw[if_pos hle] at uv;obtain⟨v',g',a1,a2,a3,a4,a5⟩:=hr.app hlo (by rw[dw];omega) ((gI M i).1:Int);refine bA a1 fun h2 e2=>?_;subst e2;conv=>whnf
   have Bk:∀c,c<h0.next→qo out c:=by
    intro c hc;rcases hr with⟨_,rfl⟩|⟨b',wz,_,rfl,_⟩
    ·intro o n k op e;cases e
    ·intro o n k op e;cases e;omega
   have sP:∀T:List Nat,(∀c,c∉T→qo out c)→Fr h h2 T:=fun T hT=>⟨a3,fun c hc hn=>a4 c hc (hT c hn)⟩;have VY:sU h2 q S n L:=by
    rcases hr with⟨_,rfl⟩|⟨b',wz,_,rfl,_⟩
    ·exact hq.keep (sP [] fun c _ o n k op e=>by cases e) (by simp)
    ·refine hq.keep (sP [b'] fun c hc o n k op e=>by cases e;simp at hc) fun c hc hm=>?_;simp at hm;have:=hS0 c hc;omega
   have JM:dr h0.next h2 v (oe M):=by
    rcases hv with hv|⟨b',wz,pN,rfl,Mj⟩
    ·exact .inl hv
    ·have Qn:qo out b':=by
      rcases ho b' with h|h
      ·exact absurd rfl (h _ _ _ _)
      ·exact h.1
     exact .inr ⟨b',wz,by omega,rfl,by rw[a4 b' pN Qn];exact Mj⟩
   refine ih (N-(i+1)) (by omega) (i+1) h2 v' _ rfl VY (by omega) JM (by rw[uv];exact a2) (fun c=>?_) ⟨by omega,fun b hb _=>?_⟩ ⟨rfl,rfl,rfl,rfl,rfl,aS (by omega),trivial⟩ hQ
   ·rcases ho c with h|h
    ·exact .inl h
    ·exact .inr ⟨a5 c h.2,by omega⟩
   ·rw[a4 b (by omega) (Bk b hb)];exact kC.keep b hb (by simp)
  ·have hle:¬(gI M i).2≤now:=of_decide_eq_false hc;rw[if_neg hle,List.append_nil] at uv;refine ih (N-(i+1)) (by omega) (i+1) h out _ rfl hq (by omega) hv (by rw[uv];exact hr) ho kC ⟨rfl,rfl,rfl,rfl,rfl,aS (by omega),trivial⟩ hQ
 ·have hge:i=N:=by have:=of_decide_eq_false hc;omega
  subst hge;refine hQ h out _ rfl ?_ kC;rw[←hN,List.take_length] at hr;exact hr
theorem D8{h:Heap}{q:Nat}{S:List Nat}{n:Int}{L:List Id}(hq:sU h q S n L)(now:Int){Q:AV→Heap→Prop}(hQ:∀h' v M,dr h.next h' v (oe (uD M now))→Ord L M→M.length≤4→Fr h h' []→Q v h'):VD fs ms 33 [.ptr q 0,.int .i64 now] h Q:=by
 refine bC (af:=OI) rfl (Nat.le_of_ble_eq_true rfl) ?_;conv=>whnf
 refine aa true ?_;conv=>whnf
 refine aJ (aa true ?_);conv=>whnf
 refine sA hq fun h1 v M k1 k2 k3 k4=>?_;conv=>whnf
 refine cM k1.read.1 ?_;conv=>whnf
 refine aG ?_;rw[dw];refine EV (now:=now) (L:=L) rfl k3 (fun y hy=>(k2.mem y).1 hy) hq.own _ 0 h1 .aN _ rfl (hq.keep k4 (by simp)) (Nat.zero_le _) k1 (.inl ⟨rfl,rfl⟩) (fun c=>?_) k4 ⟨rfl,rfl,rfl,rfl,rfl,rfl,trivial⟩ ?_
 ·rcases k1 with⟨_,rfl⟩|⟨b,_,hb,rfl,_⟩
  ·exact .inl fun o n k op e=>by cases e
  ·by_cases hcb:c=b
   ·subst hcb;exact .inr ⟨fun o n k op e=>(by cases e),hb⟩
   ·exact .inl fun o n k op e=>by cases e;exact hcb rfl
 ·intro h2 out e2 g4 hi hf;show VC fs ms _ _ _ _ _ _;refine an 3 [(4,out)] ⟨g4,trivial⟩ (aq (z:=true) ?_);conv=>whnf
  exact hQ h2 out M hi k2 k3 hf
end Ir
end Go.Proofs.Ytenafeojcgmnhaa
