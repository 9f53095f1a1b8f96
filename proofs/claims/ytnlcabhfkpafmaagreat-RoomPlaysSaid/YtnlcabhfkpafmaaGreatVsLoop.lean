/-
  Loops over rows; rows of numbers.
-/
import Derived.Test.YtnlcabhfkpafmaaGreatVsWp
import Derived.IntWalk
set_option linter.unusedVariables false
set_option linter.unusedSimpArgs false
namespace Go.Proofs.YtnlcabhfkpafmaaGreat
namespace Ads
section
variable {fs:Nat→Option an} {ms:Nat→String→Option Nat} {rd:Bool}
theorem fM{c:AC}{Q:AX→Env→Heap→Prop}(d N:Nat)(I:Nat→Prop)(E:Nat→List (Nat×AV))
  (step:∀j,j<N→I j→DG fs ms 0 rd false c (ek d (E j)) (hk 0 []) fun x e1 h1=>match x with|.normal=>I (j+1)∧kL id 0 e1 (E (j+1))|x=>Q x e1 h1)
  (last:I N→DG fs ms 0 rd false c (ek d (E N)) (hk 0 []) fun x e1 h1=>match x with|.normal=>False|x=>Q x e1 h1)
  (h0:I 0):VC fs ms 0 rd (.loop c) (ek d (E 0)) (hk 0 []) Q:=by
 have:∀r j,j+r=N→I j→VC fs ms 0 rd (.loop c) (ek d (E j)) (hk 0 []) Q:=by
  intro r;induction r with
  |zero=>
   intro j hj hi;have:j=N:=by omega
   subst this;obtain⟨x,e1,h1,hb,hk⟩:=aq (last hi);cases x with
   |normal=>exact hk.elim
   |exit i=>exact⟨_,_,_,.iB hb rfl,hk⟩
   |ret=>exact⟨_,_,_,.iB hb rfl,hk⟩
   |panic v=>exact⟨_,_,_,.iB hb rfl,hk⟩
  |succ r ih=>
   intro j hj hi;obtain⟨x,e1,h1,hb,hk⟩:=aq (step j (by omega) hi);cases x with
   |normal=>
    obtain⟨hi',hr⟩:=hk;obtain⟨x2,e2,h2,kO,hk2⟩:=gX (h:=h1) d (E (j+1)) hr (ih (j+1) (by omega) hi');exact⟨_,_,_,.uv hb kO,hk2⟩
   |exit i=>exact⟨_,_,_,.iB hb rfl,hk⟩
   |ret=>exact⟨_,_,_,.iB hb rfl,hk⟩
   |panic v=>exact⟨_,_,_,.iB hb rfl,hk⟩
 exact this N 0 (by omega) h0
theorem A6{c:AC}{Q:AX→Env→Heap→Prop}(B d N:Nat)(I:Nat→Prop)(E:Nat→List (Nat×AV))(H:Nat→Heap)
  (step:∀j,j<N→I j→DG fs ms B rd false c (ek d (E j)) (H j) fun x e1 h1=>match x with|.normal=>I (j+1)∧∃p,GC B p e1 h1 (ek d (E (j+1))) (H (j+1))|x=>Q x e1 h1)
  (last:I N→DG fs ms B rd false c (ek d (E N)) (H N) fun x e1 h1=>match x with|.normal=>False|x=>Q x e1 h1)
  (h0:I 0):VC fs ms B rd (.loop c) (ek d (E 0)) (H 0) Q:=by
 have:∀r j,j+r=N→I j→VC fs ms B rd (.loop c) (ek d (E j)) (H j) Q:=by
  intro r;induction r with
  |zero=>
   intro j hj hi;have:j=N:=by omega
   subst this;obtain⟨x,e1,h1,hb,hk⟩:=aq (last hi);cases x with
   |normal=>exact hk.elim
   |exit i=>exact⟨_,_,_,.iB hb rfl,hk⟩
   |ret=>exact⟨_,_,_,.iB hb rfl,hk⟩
   |panic v=>exact⟨_,_,_,.iB hb rfl,hk⟩
  |succ r ih=>
   intro j hj hi;obtain⟨x,e1,h1,hb,hk⟩:=aq (step j (by omega) hi);cases x with
   |normal=>
    obtain⟨hi',p,hr⟩:=hk;obtain⟨x2,e2,h2,kO,hk2⟩:=PG hr (ih (j+1) (by omega) hi');exact⟨_,_,_,.uv hb kO,hk2⟩
   |exit i=>exact⟨_,_,_,.iB hb rfl,hk⟩
   |ret=>exact⟨_,_,_,.iB hb rfl,hk⟩
   |panic v=>exact⟨_,_,_,.iB hb rfl,hk⟩
 exact this N 0 (by omega) h0
theorem TD{B:Nat}{e:Env}{h:Heap}{d n:Nat}{l:List (Nat×AV)}{m:List (Nat×dD)}(p:Nat→Nat)(hl:kL p n e l)(hm:xP p n h m)
  (hp:∀b c,b∈m.map (·.1)→c∈m.map (·.1)→p b=p c→b=c)(CY:∀b,b<B→p b=b)(hn:B≤n):GC B p e h (ek d l) (hk n m):=by
 refine⟨?_,?_,?_,CY,hn⟩
 ·intro i v hv;exact tR hl (tW d _ i v hv)
 ·intro b x hx;exact tf hm (v5 hx)
 ·intro b c hb hc he;have mem:∀b,(hk n m).get b≠none→b∈m.map (·.1):=by
   intro b hb;cases hx:(hk n m).get b with
   |none=>exact absurd hx hb
   |some x=>exact List.mem_map.2 ⟨(b,x),v5 hx,rfl⟩
  exact hp b c (mem b hb) (mem c hc) he
theorem nP{j:Nat}(h:j<9223372036854775807):IntKind.i64.wrap ((j:Int)+1)=((j+1:Nat):Int):=by
 rw[IntWalk.i64_in _ (by omega)];rfl
theorem aK{j:Nat}(h:j<9223372036854775807):some (AV.int .i64 (IntKind.i64.wrap ((j:Int)+1)))=some (AV.int .i64 ((j+1:Nat):Int)):=by rw[nP h]
theorem uZ{l:List AV}{j n k:Nat}{x:AV}(hx:l[j]?=some x)(hs:x.cells.length=n):pV (.az n) [.fz k l,.int .i64 (j:Nat)]=some (.fp x.cells 0):=by
 subst hs;simp only[pV,l2,tn];show(match l[j]? with|some y=>cond (Nat.beq y.cells.length x.cells.length) (some (AV.fp y.cells 0)) none|none=>none)=_;rw[hx];simp
theorem uX{α:Type}{enc:α→AV}{l:List α}{j n k:Nat}(hj:j<l.length)(hs:(enc l[j]).cells.length=n):pV (.az n) [.fz k (l.map enc),.int .i64 (j:Nat)]=some (.fp (enc l[j]).cells 0):=
 uZ (by simp[hj]) hs
def ints(l:List Int):List AV:=l.map (AV.int .i64)
theorem sy{l:List Int}{j k:Nat}(hj:j<l.length):pV (.az 1) [.fz k (ints l),.int .i64 (j:Nat)]=some (.fp [.int .i64 l[j]] 0):=
 uZ (x:=.int .i64 l[j]) (by simp[ints,hj]) rfl
theorem pT{α:Type}{enc:α→AV}(h:∀x,(enc x).cl=true):∀l:List α,cD (l.map enc)=true
 |[]=>rfl
 |x::l=>by simp only[List.map_cons,cD,h x,Bool.true_and];exact pT h l
theorem bS(l:List Int):cD (ints l)=true:=pT (enc:=AV.int .i64) (fun _=>rfl) l
theorem jd{α:Type}{enc:α→AV}{n:Nat}(h:∀x,(enc x).cells.length=n):∀l:List α,aO n (l.map enc)=true
 |[]=>rfl
 |x::l=>by simp only[List.map_cons,aO,h x,Nat.beq_refl,Bool.true_and];exact jd h l
theorem qk(l:List Int):aO 1 (ints l)=true:=jd (enc:=AV.int .i64) (fun _=>rfl) l
theorem m0(l:List Int):aa (ints l)=ints l:=by
 induction l with
 |nil=>rfl
 |cons x l ih=>
  show AV.cells (.int .i64 x)++aa (ints l)=_;rw[ih];rfl
theorem q6:∀l:List Int,bA (ints l)=true
 |[]=>rfl
 |x::l=>by simp only[ints,List.map_cons,bA,AV.flat,cond_true];exact q6 l
theorem bI(l:List Int):(ints l).length=l.length:=by simp[ints]
theorem least{p:Nat→Prop}(h:∃j,p j):∃j,p j∧∀i,i<j→¬p i:=by
 obtain⟨j,hj⟩:=h;induction j using Nat.strongRecOn with
 |_ j ih=>
  by_cases hl:∃i,i<j∧p i
  ·obtain⟨i,h1,h2⟩:=hl;exact ih i h1 h2
  ·exact⟨j,hj,fun i hi hp=>hl ⟨i,hi,hp⟩⟩
theorem p8{α:Type}{l:List α}{p:α→Prop}(h:∃x,x∈l∧p x):∃(j:Nat) (hj:j<l.length),p l[j]∧∀(i:Nat) (hi:i<l.length),i<j→¬p l[i]:=by
 obtain⟨j,⟨hj,h1⟩,h2⟩:=least (p:=fun j=>∃hj:j<l.length,p l[j]) (by
  obtain⟨x,hx,hp⟩:=h;obtain⟨j,hj,rfl⟩:=List.getElem_of_mem hx;exact⟨j,hj,hp⟩)
 exact⟨j,hj,h1,fun i hi hlt hp=>h2 i hlt ⟨hi,hp⟩⟩
theorem aT{h:Heap}{b o:Nat}{vs:List AV}{wr:Bool}{es:Nat}{v:AV}(hg:h.get b=some (.cells vs wr es))(hv:vs[o]?=some v):rV .ck [.ptr b o] h=some v:=by
 simp only[rV,l1];rw[rB hg];exact hv
theorem u0{h:Heap}{b o n:Nat}{vs:List AV}{wr:Bool}{es:Nat}(hg:h.get b=some (.cells vs wr es))(hl:o+n≤vs.length):rV (.aZ n) [.ptr b o] h=some (.agg ((vs.drop o).take n)):=by
 simp only[rV,l1];rw[bR hg hl];rfl
theorem WG{h:Heap}{b o n:Nat}{vs:List AV}{es:Nat}{v:AV}(hg:h.get b=some (.cells vs true es))(hn:v.cells.length=n)(hl:Nat.ble (o+n) vs.length=true)(hf:bA v.cells=true):
  eV (.store n) [.ptr b o,v] h=some (.undef,h.set b (.cells (Heap.splice vs o v.cells) true es)):=by
 subst hn;show eI (.store _) [.ptr b o,v] h=_;simp only[eI,Nat.beq_refl,cond_true,Heap.fy,hg,hl,hf,Bool.and_self,Option.map_some]
theorem nu{α:Type}{l:List α}{j:Nat}(hj:j<l.length):l.take (j+1)=l.take j++[l[j]]:=by simp
end
section
def Kx(l0:List bE)(xM:List aN)(g1:Heap)(k:Nat)(m:aN):List Nat→Prop
 |[]=>True
 |c::cs=>(cond (Nat.ble c k) (yZ (dV (xM.drop c) g1) (fun _=>true) (l0.drop c) (xM.drop c) (k-c))
   (Nat.ble (c+1) xM.length=true∧((m.v.dt=true∧∀i o,l0[k]?=some i→i.op=.r o→rV o m.vals (dV (xM.drop c) g1)=some m.v)∨∃cs o1,m.vals=[.fp cs o1])))∧Kx l0 xM g1 k m cs
def Kw(l0:List bE)(xM:List aN)(g1:Heap):Nat→List (List Nat)→List aN→Prop
 |k,[]::win,m::tr=>Kw l0 xM g1 (k+1) win tr
 |k,(c::cs)::win,m::tr=>(m.on=true→Kx l0 xM g1 k m (c::cs))∧Kw l0 xM g1 (k+1) win tr
 |_,_,_=>True
def Hf(l0:List bE)(xM:List aN)(g1:Heap)(k:Nat)(m:aN)(c:Nat):Prop:=
 (c≤k∧yZ (dV (xM.drop c) g1) (fun _=>true) (l0.drop c) (xM.drop c) (k-c))∨
  (k≤c∧c<xM.length∧((m.v.dt=true∧∀i o,l0[k]?=some i→i.op=.r o→rV o m.vals (dV (xM.drop c) g1)=some m.v)∨∃cs o1,m.vals=[.fp cs o1]))
theorem y3{l0:List bE}{xM:List aN}{g1:Heap}{k:Nat}{m:aN}:∀{cs:List Nat},Kx l0 xM g1 k m cs→∀c∈cs,Hf l0 xM g1 k m c
 |[],_,c,hc=>by simp at hc
 |d::cs,h,c,hc=>by
  rcases List.mem_cons.1 hc with e|e
  ·subst e;have h1:=h.1;cases hb:Nat.ble c k with
   |true=>rw[hb] at h1;exact .inl ⟨Nat.le_of_ble_eq_true hb,h1⟩
   |false=>
    rw[hb] at h1;refine .inr ⟨?_,Nat.le_of_ble_eq_true h1.1,h1.2⟩;by_cases hl:c≤k
    ·rw[Nat.ble_eq_true_of_le hl] at hb;exact absurd hb (by decide)
    ·omega
  ·exact y3 h.2 c e
theorem Cc{l0:List bE}{xM:List aN}{g1:Heap}:∀{win:List (List Nat)} {tr:List aN} {k0:Nat},Kw l0 xM g1 k0 win tr→∀(k:Nat) cs m,win[k]?=some cs→tr[k]?=some m→m.on=true→∀c∈cs,Hf l0 xM g1 (k0+k) m c
 |[],_,_,_,k,cs,m,h1,_,_,c,_=>by simp at h1
 |_::_,[],_,_,k,cs,m,_,h2,_,c,_=>by simp at h2
 |ds::win,n::tr,k0,h,0,cs,m,h1,h2,eM,c,hc=>by
  simp only[List.getElem?_cons_zero,Option.some.injEq] at h1 h2;subst h1 h2;cases ds with
  |nil=>simp at hc
  |cons d ds=>exact y3 (h.1 eM) c hc
 |ds::win,n::tr,k0,h,k+1,cs,m,h1,h2,eM,c,hc=>by
  have vQ:Kw l0 xM g1 (k0+1) win tr:=by
   cases ds with
   |nil=>exact h
   |cons d ds=>exact h.2
  have:=Cc vQ k cs m (by simpa using h1) (by simpa using h2) eM c hc
  rwa [show k0+1+k=k0+(k+1) by omega] at this
theorem iO{l:List bE}{win:List (List Nat)}{tr:List aN}{g1:Heap}(h:Kw l tr g1 0 win tr):y5 l win tr g1:=by
 intro k i cs m o h1 h2 h3 hop eM c hc;have:=Cc h k cs m h2 h3 eM c hc;rw[Nat.zero_add] at this;exact this.imp id fun⟨x,y,z⟩=>⟨x,y,z.imp (fun⟨a,b⟩=>⟨a,b i o h1 hop⟩) id⟩
end
end Ads
end Go.Proofs.YtnlcabhfkpafmaaGreat
