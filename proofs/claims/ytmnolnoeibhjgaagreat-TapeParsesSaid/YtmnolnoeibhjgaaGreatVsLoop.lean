/-
  Loops over rows; rows of numbers.
-/
import Derived.Test.YtmnolnoeibhjgaaGreatVsWp
import Derived.IntWalk
set_option linter.unusedVariables false
set_option linter.unusedSimpArgs false
namespace Go.Proofs.YtmnolnoeibhjgaaGreat
namespace Ads
section
variable {fs:Nat→Option aj} {ms:Nat→String→Option Nat} {rd:Bool}
theorem DB{c:AC}{Q:AX→Env→Heap→Prop}(d N:Nat)(I:Nat→Prop)(E:Nat→List (Nat×AV))
  (step:∀j,j<N→I j→Dj fs ms 0 rd false c (ek d (E j)) (hk 0 []) fun x e1 h1=>match x with|.normal=>I (j+1)∧iS id 0 e1 (E (j+1))|x=>Q x e1 h1)
  (last:I N→Dj fs ms 0 rd false c (ek d (E N)) (hk 0 []) fun x e1 h1=>match x with|.normal=>False|x=>Q x e1 h1)
  (h0:I 0):VC fs ms 0 rd (.loop c) (ek d (E 0)) (hk 0 []) Q:=by
 have:∀r j,j+r=N→I j→VC fs ms 0 rd (.loop c) (ek d (E j)) (hk 0 []) Q:=by
  intro r;induction r with
  |zero=>
   intro j hj hi;have:j=N:=by omega
   subst this;obtain⟨x,e1,h1,hb,hk⟩:=aa (last hi);cases x with
   |normal=>exact hk.elim
   |exit i=>exact⟨_,_,_,.cT hb rfl,hk⟩
   |ret=>exact⟨_,_,_,.cT hb rfl,hk⟩
   |panic v=>exact⟨_,_,_,.cT hb rfl,hk⟩
  |succ r ih=>
   intro j hj hi;obtain⟨x,e1,h1,hb,hk⟩:=aa (step j (by omega) hi);cases x with
   |normal=>
    obtain⟨hi',hr⟩:=hk;obtain⟨x2,e2,h2,gn,hk2⟩:=z5 (h:=h1) d (E (j+1)) hr (ih (j+1) (by omega) hi');exact⟨_,_,_,.lE hb gn,hk2⟩
   |exit i=>exact⟨_,_,_,.cT hb rfl,hk⟩
   |ret=>exact⟨_,_,_,.cT hb rfl,hk⟩
   |panic v=>exact⟨_,_,_,.cT hb rfl,hk⟩
 exact this N 0 (by omega) h0
theorem GB{c:AC}{Q:AX→Env→Heap→Prop}(B d N:Nat)(I:Nat→Prop)(E:Nat→List (Nat×AV))(H:Nat→Heap)
  (step:∀j,j<N→I j→Dj fs ms B rd false c (ek d (E j)) (H j) fun x e1 h1=>match x with|.normal=>I (j+1)∧∃p,GC B p e1 h1 (ek d (E (j+1))) (H (j+1))|x=>Q x e1 h1)
  (last:I N→Dj fs ms B rd false c (ek d (E N)) (H N) fun x e1 h1=>match x with|.normal=>False|x=>Q x e1 h1)
  (h0:I 0):VC fs ms B rd (.loop c) (ek d (E 0)) (H 0) Q:=by
 have:∀r j,j+r=N→I j→VC fs ms B rd (.loop c) (ek d (E j)) (H j) Q:=by
  intro r;induction r with
  |zero=>
   intro j hj hi;have:j=N:=by omega
   subst this;obtain⟨x,e1,h1,hb,hk⟩:=aa (last hi);cases x with
   |normal=>exact hk.elim
   |exit i=>exact⟨_,_,_,.cT hb rfl,hk⟩
   |ret=>exact⟨_,_,_,.cT hb rfl,hk⟩
   |panic v=>exact⟨_,_,_,.cT hb rfl,hk⟩
  |succ r ih=>
   intro j hj hi;obtain⟨x,e1,h1,hb,hk⟩:=aa (step j (by omega) hi);cases x with
   |normal=>
    obtain⟨hi',p,hr⟩:=hk;obtain⟨x2,e2,h2,gn,hk2⟩:=BK hr (ih (j+1) (by omega) hi');exact⟨_,_,_,.lE hb gn,hk2⟩
   |exit i=>exact⟨_,_,_,.cT hb rfl,hk⟩
   |ret=>exact⟨_,_,_,.cT hb rfl,hk⟩
   |panic v=>exact⟨_,_,_,.cT hb rfl,hk⟩
 exact this N 0 (by omega) h0
theorem Q7{c:AC}{Q:AX→Env→Heap→Prop}{h:Heap}(z:Bool)(B d N:Nat)(I:Nat→Heap→Prop)(E:Nat→List (Nat×AV))
  (step:∀j h,j<N→I j h→Dj fs ms B rd z c (ek d (E j)) h fun x e1 h1=>match x with|.normal=>I (j+1) h1∧bQ e1 (E (j+1))|x=>Q x e1 h1)
  (last:∀h,I N h→Dj fs ms B rd z c (ek d (E N)) h fun x e1 h1=>match x with|.normal=>False|x=>Q x e1 h1)
  (h0:I 0 h):VC fs ms B rd (.loop c) (ek d (E 0)) h Q:=by
 have:∀r j h,j+r=N→I j h→VC fs ms B rd (.loop c) (ek d (E j)) h Q:=by
  intro r;induction r with
  |zero=>
   intro j h hj hi;have:j=N:=by omega
   subst this;obtain⟨x,e1,h1,hb,hk⟩:=aa (last h hi);cases x with
   |normal=>exact hk.elim
   |exit i=>exact⟨_,_,_,.cT hb rfl,hk⟩
   |ret=>exact⟨_,_,_,.cT hb rfl,hk⟩
   |panic v=>exact⟨_,_,_,.cT hb rfl,hk⟩
  |succ r ih=>
   intro j h hj hi;obtain⟨x,e1,h1,hb,hk⟩:=aa (step j h (by omega) hi);cases x with
   |normal=>
    obtain⟨hi',hr⟩:=hk;obtain⟨x2,e2,h2,gn,hk2⟩:=ay (h:=h1) d (E (j+1)) hr (ih (j+1) h1 (by omega) hi');exact⟨_,_,_,.lE hb gn,hk2⟩
   |exit i=>exact⟨_,_,_,.cT hb rfl,hk⟩
   |ret=>exact⟨_,_,_,.cT hb rfl,hk⟩
   |panic v=>exact⟨_,_,_,.cT hb rfl,hk⟩
 exact this N 0 h (by omega) h0
theorem Rf{B:Nat}{e:Env}{h:Heap}{d n:Nat}{l:List (Nat×AV)}{m:List (Nat×bP)}(p:Nat→Nat)(hl:iS p n e l)(hm:xD p n h m)
  (hp:∀b c,b∈m.map (·.1)→c∈m.map (·.1)→p b=p c→b=c)(tw:∀b,b<B→p b=b)(hn:B≤n):GC B p e h (ek d l) (hk n m):=by
 refine⟨?_,?_,?_,tw,hn⟩
 ·intro i v hv;exact m0 hl (pz d _ i v hv)
 ·intro b x hx;exact sZ hm (vG hx)
 ·intro b c hb hc he;have mem:∀b,(hk n m).get b≠none→b∈m.map (·.1):=by
   intro b hb;cases hx:(hk n m).get b with
   |none=>exact absurd hx hb
   |some x=>exact List.mem_map.2 ⟨(b,x),vG hx,rfl⟩
  exact hp b c (mem b hb) (mem c hc) he
theorem DL{j:Nat}(h:j<9223372036854775807):IntKind.i64.wrap ((j:Int)+1)=((j+1:Nat):Int):=by
 rw[IntWalk.i64_in _ (by omega)];rfl
theorem bC{j:Nat}(h:j<9223372036854775807):some (AV.int .i64 (IntKind.i64.wrap ((j:Int)+1)))=some (AV.int .i64 ((j+1:Nat):Int)):=by rw[DL h]
theorem DK{l:List AV}{j n k:Nat}{x:AV}(hx:l[j]?=some x)(hs:x.cells.length=n):pV (.aB n) [.fz k l,.int .i64 (j:Nat)]=some (.fp x.cells 0):=by
 subst hs;simp only[pV,l2,qw];show(match l[j]? with|some y=>cond (Nat.beq y.cells.length x.cells.length) (some (AV.fp y.cells 0)) none|none=>none)=_;rw[hx];simp
theorem uI{α:Type}{enc:α→AV}{l:List α}{j n k:Nat}(hj:j<l.length)(hs:(enc l[j]).cells.length=n):pV (.aB n) [.fz k (l.map enc),.int .i64 (j:Nat)]=some (.fp (enc l[j]).cells 0):=
 DK (by simp[hj]) hs
def ints(l:List Int):List AV:=l.map (AV.int .i64)
def Z4(n:Int):AV:=.int .i64 n
theorem zm{l:List Int}{j k:Nat}(hj:j<l.length):pV (.aB 1) [.fz k (ints l),.int .i64 (j:Nat)]=some (.fp [.int .i64 l[j]] 0):=
 DK (x:=.int .i64 l[j]) (by simp[ints,hj]) rfl
theorem nC{α:Type}{enc:α→AV}(h:∀x,(enc x).cl=true):∀l:List α,e9 (l.map enc)=true
 |[]=>rfl
 |x::l=>by simp only[List.map_cons,e9,h x,Bool.true_and];exact nC h l
theorem jK(l:List Int):e9 (ints l)=true:=nC (enc:=AV.int .i64) (fun _=>rfl) l
theorem ef{α:Type}{enc:α→AV}{n:Nat}(h:∀x,(enc x).cells.length=n):∀l:List α,aL n (l.map enc)=true
 |[]=>rfl
 |x::l=>by simp only[List.map_cons,aL,h x,Nat.beq_refl,Bool.true_and];exact ef h l
theorem tK(l:List Int):aL 1 (ints l)=true:=ef (enc:=AV.int .i64) (fun _=>rfl) l
theorem th(l:List Int):ak (ints l)=ints l:=by
 induction l with
 |nil=>rfl
 |cons x l ih=>
  show AV.cells (.int .i64 x)++ak (ints l)=_;rw[ih];rfl
theorem Cr:∀l:List Int,bz (ints l)=true
 |[]=>rfl
 |x::l=>by simp only[ints,List.map_cons,bz,AV.flat,cond_true];exact Cr l
theorem jW(l:List Int):(ints l).length=l.length:=by simp[ints]
theorem zE{α:Type}(x y:Option α):∀(f:Nat) (t:Tr α) (n:Nat),n<f→Tr.put y f (Tr.put x f t n) n=Tr.put y f t n
 |0,t,n,h=>by omega
 |f+1,t,n,h=>by
  cases hb:Nat.beq n 0 with
  |true=>simp only[Tr.put,hb,cond_true,Tr.left,Tr.right]
  |false=>
   have hn:n≠0:=by rintro rfl;simp at hb
   cases hm:Nat.beq (n%2) 1 with
   |true=>simp only[Tr.put,hb,hm,cond_true,cond_false,Tr.left,Tr.right,Tr.val];rw[zE x y f _ _ (by omega)]
   |false=>simp only[Tr.put,hb,hm,cond_true,cond_false,Tr.left,Tr.right,Tr.val];rw[zE x y f _ _ (by omega)]
theorem least{p:Nat→Prop}(h:∃j,p j):∃j,p j∧∀i,i<j→¬p i:=by
 obtain⟨j,hj⟩:=h;induction j using Nat.strongRecOn with
 |_ j ih=>
  by_cases hl:∃i,i<j∧p i
  ·obtain⟨i,h1,h2⟩:=hl;exact ih i h1 h2
  ·exact⟨j,hj,fun i hi hp=>hl ⟨i,hi,hp⟩⟩
theorem Qr{α:Type}{l:List α}{p:α→Prop}(h:∃x,x∈l∧p x):∃(j:Nat) (hj:j<l.length),p l[j]∧∀(i:Nat) (hi:i<l.length),i<j→¬p l[i]:=by
 obtain⟨j,⟨hj,h1⟩,h2⟩:=least (p:=fun j=>∃hj:j<l.length,p l[j]) (by
  obtain⟨x,hx,hp⟩:=h;obtain⟨j,hj,rfl⟩:=List.getElem_of_mem hx;exact⟨j,hj,hp⟩)
 exact⟨j,hj,h1,fun i hi hlt hp=>h2 i hlt ⟨hi,hp⟩⟩
theorem set_set(h:Heap)(b:Nat)(x y:bP):(h.set b x).set b y=h.set b y:=by
 simp only[Heap.set,Tr.set];rw[zE _ _ _ _ _ (by omega)]
theorem JF(h:Heap)(b:Nat)(x:bP):(h.set b x).get b=some x:=by rw[Heap.aT,if_pos rfl]
theorem cM{h:Heap}{b o:Nat}{vs:List AV}{wr:Bool}{es:Nat}{v:AV}(hg:h.get b=some (.cells vs wr es))(hv:vs[o]?=some v):rV .cP [.ptr b o] h=some v:=by
 simp only[rV,l1];rw[rq hg];exact hv
theorem FG{h:Heap}{b o n:Nat}{vs:List AV}{wr:Bool}{es:Nat}(hg:h.get b=some (.cells vs wr es))(hl:o+n≤vs.length):rV (.bt n) [.ptr b o] h=some (.agg ((vs.drop o).take n)):=by
 simp only[rV,l1];rw[ez hg hl];rfl
theorem st1{h:Heap}{b o n:Nat}{vs:List AV}{es:Nat}{v:AV}(hg:h.get b=some (.cells vs true es))(hn:v.cells.length=n)(hl:Nat.ble (o+n) vs.length=true)(hf:bz v.cells=true):
  eV (.store n) [.ptr b o,v] h=some (.undef,h.set b (.cells (Heap.splice vs o v.cells) true es)):=by
 subst hn;show eI (.store _) [.ptr b o,v] h=_;simp only[eI,Nat.beq_refl,cond_true,Heap.cZ,hg,hl,hf,Bool.and_self,Option.map_some]
theorem WY{α:Type}{l:List α}{p:α→Bool}{j:Nat}(hj:j<l.length)(h:p l[j]=false):l.all p=false:=by
 rw[List.all_eq_false];exact⟨l[j],List.getElem_mem hj,by simp[h]⟩
theorem QM{α:Type}{l:List α}{p:α→Bool}{j:Nat}(hj:j<l.length)(hi:(l.take j).all p=true)(h:p l[j]=true):(l.take (j+1)).all p=true:=by
 rw[List.take_succ_eq_append_getElem hj,List.all_append,hi];simp[h]
theorem dz{α:Type}{l:List α}{j:Nat}(hj:j<l.length):l.take (j+1)=l.take j++[l[j]]:=by simp
end
section
def IM(l0:List bp)(xB:List aK)(g1:Heap)(k:Nat)(m:aK):List Nat→Prop
 |[]=>True
 |c::cs=>(cond (Nat.ble c k) (yJ (dQ (xB.drop c) g1) (fun _=>true) (l0.drop c) (xB.drop c) (k-c))
   (Nat.ble (c+1) xB.length=true∧((m.v.dt=true∧∀i o,l0[k]?=some i→i.op=.r o→rV o m.vals (dQ (xB.drop c) g1)=some m.v)∨∃cs o1,m.vals=[.fp cs o1])))∧IM l0 xB g1 k m cs
def IL(l0:List bp)(xB:List aK)(g1:Heap):Nat→List (List Nat)→List aK→Prop
 |k,[]::win,m::tr=>IL l0 xB g1 (k+1) win tr
 |k,(c::cs)::win,m::tr=>(m.on=true→IM l0 xB g1 k m (c::cs))∧IL l0 xB g1 (k+1) win tr
 |_,_,_=>True
def FQ(l0:List bp)(xB:List aK)(g1:Heap)(k:Nat)(m:aK)(c:Nat):Prop:=
 (c≤k∧yJ (dQ (xB.drop c) g1) (fun _=>true) (l0.drop c) (xB.drop c) (k-c))∨
  (k≤c∧c<xB.length∧((m.v.dt=true∧∀i o,l0[k]?=some i→i.op=.r o→rV o m.vals (dQ (xB.drop c) g1)=some m.v)∨∃cs o1,m.vals=[.fp cs o1]))
theorem yK{l0:List bp}{xB:List aK}{g1:Heap}{k:Nat}{m:aK}:∀{cs:List Nat},IM l0 xB g1 k m cs→∀c∈cs,FQ l0 xB g1 k m c
 |[],_,c,hc=>by simp at hc
 |d::cs,h,c,hc=>by
  rcases List.mem_cons.1 hc with e|e
  ·subst e;have h1:=h.1;cases hb:Nat.ble c k with
   |true=>rw[hb] at h1;exact .inl ⟨Nat.le_of_ble_eq_true hb,h1⟩
   |false=>
    rw[hb] at h1;refine .inr ⟨?_,Nat.le_of_ble_eq_true h1.1,h1.2⟩;by_cases hl:c≤k
    ·rw[Nat.ble_eq_true_of_le hl] at hb;exact absurd hb (by decide)
    ·omega
  ·exact yK h.2 c e
theorem BN{l0:List bp}{xB:List aK}{g1:Heap}:∀{win:List (List Nat)} {tr:List aK} {k0:Nat},IL l0 xB g1 k0 win tr→∀(k:Nat) cs m,win[k]?=some cs→tr[k]?=some m→m.on=true→∀c∈cs,FQ l0 xB g1 (k0+k) m c
 |[],_,_,_,k,cs,m,h1,_,_,c,_=>by simp at h1
 |_::_,[],_,_,k,cs,m,_,h2,_,c,_=>by simp at h2
 |ds::win,n::tr,k0,h,0,cs,m,h1,h2,gb,c,hc=>by
  simp only[List.getElem?_cons_zero,Option.some.injEq] at h1 h2;subst h1 h2;cases ds with
  |nil=>simp at hc
  |cons d ds=>exact yK (h.1 gb) c hc
 |ds::win,n::tr,k0,h,k+1,cs,m,h1,h2,gb,c,hc=>by
  have xo:IL l0 xB g1 (k0+1) win tr:=by
   cases ds with
   |nil=>exact h
   |cons d ds=>exact h.2
  have:=BN xo k cs m (by simpa using h1) (by simpa using h2) gb c hc
  rwa [show k0+1+k=k0+(k+1) by omega] at this
theorem wO{l:List bp}{win:List (List Nat)}{tr:List aK}{g1:Heap}(h:IL l tr g1 0 win tr):um l win tr g1:=by
 intro k i cs m o h1 h2 h3 hop gb c hc;have:=BN h k cs m h2 h3 gb c hc;rw[Nat.zero_add] at this;exact this.imp id fun⟨x,y,z⟩=>⟨x,y,z.imp (fun⟨a,b⟩=>⟨a,b i o h1 hop⟩) id⟩
end
end Ads
end Go.Proofs.YtmnolnoeibhjgaaGreat
