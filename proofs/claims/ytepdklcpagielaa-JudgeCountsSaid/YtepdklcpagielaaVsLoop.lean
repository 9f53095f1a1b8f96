/-
  Loops over rows; rows of numbers.
-/
import Derived.Test.YtepdklcpagielaaVsWp
import Derived.IntWalk
set_option linter.unusedVariables false
set_option linter.unusedSimpArgs false
namespace Go.Proofs.Ytepdklcpagielaa
namespace Ads
section
variable {fs:Nat→Option aB} {ms:Nat→String→Option Nat} {rd:Bool}
theorem fe{c:AC}{Q:AX→Env→Heap→Prop}(d N:Nat)(I:Nat→Prop)(E:Nat→List (Nat×AV))
  (step:∀j,j<N→I j→tJ fs ms 0 rd false c (ek d (E j)) (hk 0 []) fun x e1 h1=>match x with|.normal=>I (j+1)∧jH id 0 e1 (E (j+1))|x=>Q x e1 h1)
  (last:I N→tJ fs ms 0 rd false c (ek d (E N)) (hk 0 []) fun x e1 h1=>match x with|.normal=>False|x=>Q x e1 h1)
  (h0:I 0):VC fs ms 0 rd (.loop c) (ek d (E 0)) (hk 0 []) Q:=by
 have:∀r j,j+r=N→I j→VC fs ms 0 rd (.loop c) (ek d (E j)) (hk 0 []) Q:=by
  intro r;induction r with
  |zero=>
   intro j hj hi;have:j=N:=by omega
   subst this;obtain⟨x,e1,h1,hb,hk⟩:=aa (last hi);cases x with
   |normal=>exact hk.elim
   |exit i=>exact⟨_,_,_,.dJ hb rfl,hk⟩
   |ret=>exact⟨_,_,_,.dJ hb rfl,hk⟩
   |panic v=>exact⟨_,_,_,.dJ hb rfl,hk⟩
  |succ r ih=>
   intro j hj hi;obtain⟨x,e1,h1,hb,hk⟩:=aa (step j (by omega) hi);cases x with
   |normal=>
    obtain⟨hi',hr⟩:=hk;obtain⟨x2,e2,h2,iH,hk2⟩:=ei (h:=h1) d (E (j+1)) hr (ih (j+1) (by omega) hi');exact⟨_,_,_,.nP hb iH,hk2⟩
   |exit i=>exact⟨_,_,_,.dJ hb rfl,hk⟩
   |ret=>exact⟨_,_,_,.dJ hb rfl,hk⟩
   |panic v=>exact⟨_,_,_,.dJ hb rfl,hk⟩
 exact this N 0 (by omega) h0
theorem o9{c:AC}{Q:AX→Env→Heap→Prop}(B d N:Nat)(I:Nat→Prop)(E:Nat→List (Nat×AV))(H:Nat→Heap)
  (step:∀j,j<N→I j→tJ fs ms B rd false c (ek d (E j)) (H j) fun x e1 h1=>match x with|.normal=>I (j+1)∧∃p,GC B p e1 h1 (ek d (E (j+1))) (H (j+1))|x=>Q x e1 h1)
  (last:I N→tJ fs ms B rd false c (ek d (E N)) (H N) fun x e1 h1=>match x with|.normal=>False|x=>Q x e1 h1)
  (h0:I 0):VC fs ms B rd (.loop c) (ek d (E 0)) (H 0) Q:=by
 have:∀r j,j+r=N→I j→VC fs ms B rd (.loop c) (ek d (E j)) (H j) Q:=by
  intro r;induction r with
  |zero=>
   intro j hj hi;have:j=N:=by omega
   subst this;obtain⟨x,e1,h1,hb,hk⟩:=aa (last hi);cases x with
   |normal=>exact hk.elim
   |exit i=>exact⟨_,_,_,.dJ hb rfl,hk⟩
   |ret=>exact⟨_,_,_,.dJ hb rfl,hk⟩
   |panic v=>exact⟨_,_,_,.dJ hb rfl,hk⟩
  |succ r ih=>
   intro j hj hi;obtain⟨x,e1,h1,hb,hk⟩:=aa (step j (by omega) hi);cases x with
   |normal=>
    obtain⟨hi',p,hr⟩:=hk;obtain⟨x2,e2,h2,iH,hk2⟩:=z7 hr (ih (j+1) (by omega) hi');exact⟨_,_,_,.nP hb iH,hk2⟩
   |exit i=>exact⟨_,_,_,.dJ hb rfl,hk⟩
   |ret=>exact⟨_,_,_,.dJ hb rfl,hk⟩
   |panic v=>exact⟨_,_,_,.dJ hb rfl,hk⟩
 exact this N 0 (by omega) h0
theorem K0{c:AC}{Q:AX→Env→Heap→Prop}{h:Heap}(z:Bool)(B d N:Nat)(I:Nat→Heap→Prop)(E:Nat→List (Nat×AV))
  (step:∀j h,j<N→I j h→tJ fs ms B rd z c (ek d (E j)) h fun x e1 h1=>match x with|.normal=>I (j+1) h1∧aP e1 (E (j+1))|x=>Q x e1 h1)
  (last:∀h,I N h→tJ fs ms B rd z c (ek d (E N)) h fun x e1 h1=>match x with|.normal=>False|x=>Q x e1 h1)
  (h0:I 0 h):VC fs ms B rd (.loop c) (ek d (E 0)) h Q:=by
 have:∀r j h,j+r=N→I j h→VC fs ms B rd (.loop c) (ek d (E j)) h Q:=by
  intro r;induction r with
  |zero=>
   intro j h hj hi;have:j=N:=by omega
   subst this;obtain⟨x,e1,h1,hb,hk⟩:=aa (last h hi);cases x with
   |normal=>exact hk.elim
   |exit i=>exact⟨_,_,_,.dJ hb rfl,hk⟩
   |ret=>exact⟨_,_,_,.dJ hb rfl,hk⟩
   |panic v=>exact⟨_,_,_,.dJ hb rfl,hk⟩
  |succ r ih=>
   intro j h hj hi;obtain⟨x,e1,h1,hb,hk⟩:=aa (step j h (by omega) hi);cases x with
   |normal=>
    obtain⟨hi',hr⟩:=hk;obtain⟨x2,e2,h2,iH,hk2⟩:=ak (h:=h1) d (E (j+1)) hr (ih (j+1) h1 (by omega) hi');exact⟨_,_,_,.nP hb iH,hk2⟩
   |exit i=>exact⟨_,_,_,.dJ hb rfl,hk⟩
   |ret=>exact⟨_,_,_,.dJ hb rfl,hk⟩
   |panic v=>exact⟨_,_,_,.dJ hb rfl,hk⟩
 exact this N 0 h (by omega) h0
theorem QM{B:Nat}{e:Env}{h:Heap}{d n:Nat}{l:List (Nat×AV)}{m:List (Nat×dm)}(p:Nat→Nat)(hl:jH p n e l)(hm:AS p n h m)
  (hp:∀b c,b∈m.map (·.1)→c∈m.map (·.1)→p b=p c→b=c)(wC:∀b,b<B→p b=b)(hn:B≤n):GC B p e h (ek d l) (hk n m):=by
 refine⟨?_,?_,?_,wC,hn⟩
 ·intro i v hv;exact pM hl (sg d _ i v hv)
 ·intro b x hx;exact vR hm (yV hx)
 ·intro b c hb hc he;have mem:∀b,(hk n m).get b≠none→b∈m.map (·.1):=by
   intro b hb;cases hx:(hk n m).get b with
   |none=>exact absurd hx hb
   |some x=>exact List.mem_map.2 ⟨(b,x),yV hx,rfl⟩
  exact hp b c (mem b hb) (mem c hc) he
theorem Pn{j:Nat}(h:j<9223372036854775807):IntKind.i64.wrap ((j:Int)+1)=((j+1:Nat):Int):=by
 rw[IntWalk.i64_in _ (by omega)];rfl
theorem ay{j:Nat}(h:j<9223372036854775807):some (AV.int .i64 (IntKind.i64.wrap ((j:Int)+1)))=some (AV.int .i64 ((j+1:Nat):Int)):=by rw[Pn h]
theorem HC{l:List AV}{j n k:Nat}{x:AV}(hx:l[j]?=some x)(hs:x.cells.length=n):pV (.aE n) [.fz k l,.int .i64 (j:Nat)]=some (.fp x.cells 0):=by
 subst hs;simp only[pV,l2,uo];show(match l[j]? with|some y=>cond (Nat.beq y.cells.length x.cells.length) (some (AV.fp y.cells 0)) none|none=>none)=_;rw[hx];simp
theorem vf{α:Type}{enc:α→AV}{l:List α}{j n k:Nat}(hj:j<l.length)(hs:(enc l[j]).cells.length=n):pV (.aE n) [.fz k (l.map enc),.int .i64 (j:Nat)]=some (.fp (enc l[j]).cells 0):=
 HC (by simp[hj]) hs
def ints(l:List Int):List AV:=l.map (AV.int .i64)
def adX(n:Int):AV:=.int .i64 n
theorem jR{l:List Int}{j k:Nat}(hj:j<l.length):pV (.aE 1) [.fz k (ints l),.int .i64 (j:Nat)]=some (.fp [.int .i64 l[j]] 0):=
 HC (x:=.int .i64 l[j]) (by simp[ints,hj]) rfl
theorem pZ{α:Type}{enc:α→AV}(h:∀x,(enc x).cl=true):∀l:List α,bL (l.map enc)=true
 |[]=>rfl
 |x::l=>by simp only[List.map_cons,bL,h x,Bool.true_and];exact pZ h l
theorem aS(l:List Int):bL (ints l)=true:=pZ (enc:=AV.int .i64) (fun _=>rfl) l
theorem ew{α:Type}{enc:α→AV}{n:Nat}(h:∀x,(enc x).cells.length=n):∀l:List α,aW n (l.map enc)=true
 |[]=>rfl
 |x::l=>by simp only[List.map_cons,aW,h x,Nat.beq_refl,Bool.true_and];exact ew h l
theorem lF(l:List Int):aW 1 (ints l)=true:=ew (enc:=AV.int .i64) (fun _=>rfl) l
theorem sS(l:List Int):ai (ints l)=ints l:=by
 induction l with
 |nil=>rfl
 |cons x l ih=>
  show AV.cells (.int .i64 x)++ai (ints l)=_;rw[ih];rfl
theorem FH:∀l:List Int,bx (ints l)=true
 |[]=>rfl
 |x::l=>by simp only[ints,List.map_cons,bx,AV.flat,cond_true];exact FH l
theorem cu(l:List Int):(ints l).length=l.length:=by simp[ints]
theorem CP{α:Type}(x y:Option α):∀(f:Nat) (t:Tr α) (n:Nat),n<f→Tr.put y f (Tr.put x f t n) n=Tr.put y f t n
 |0,t,n,h=>by omega
 |f+1,t,n,h=>by
  cases hb:Nat.beq n 0 with
  |true=>simp only[Tr.put,hb,cond_true,Tr.left,Tr.right]
  |false=>
   have hn:n≠0:=by rintro rfl;simp at hb
   cases hm:Nat.beq (n%2) 1 with
   |true=>simp only[Tr.put,hb,hm,cond_true,cond_false,Tr.left,Tr.right,Tr.val];rw[CP x y f _ _ (by omega)]
   |false=>simp only[Tr.put,hb,hm,cond_true,cond_false,Tr.left,Tr.right,Tr.val];rw[CP x y f _ _ (by omega)]
theorem least{p:Nat→Prop}(h:∃j,p j):∃j,p j∧∀i,i<j→¬p i:=by
 obtain⟨j,hj⟩:=h;induction j using Nat.strongRecOn with
 |_ j ih=>
  by_cases hl:∃i,i<j∧p i
  ·obtain⟨i,h1,h2⟩:=hl;exact ih i h1 h2
  ·exact⟨j,hj,fun i hi hp=>hl ⟨i,hi,hp⟩⟩
theorem ng{α:Type}{l:List α}{p:α→Prop}(h:∃x,x∈l∧p x):∃(j:Nat) (hj:j<l.length),p l[j]∧∀(i:Nat) (hi:i<l.length),i<j→¬p l[i]:=by
 obtain⟨j,⟨hj,h1⟩,h2⟩:=least (p:=fun j=>∃hj:j<l.length,p l[j]) (by
  obtain⟨x,hx,hp⟩:=h;obtain⟨j,hj,rfl⟩:=List.getElem_of_mem hx;exact⟨j,hj,hp⟩)
 exact⟨j,hj,h1,fun i hi hlt hp=>h2 i hlt ⟨hi,hp⟩⟩
theorem set_set(h:Heap)(b:Nat)(x y:dm):(h.set b x).set b y=h.set b y:=by
 simp only[Heap.set,Tr.set];rw[CP _ _ _ _ _ (by omega)]
theorem mX(h:Heap)(b:Nat)(x:dm):(h.set b x).get b=some x:=by rw[Heap.bP,if_pos rfl]
theorem bA{h:Heap}{b o:Nat}{vs:List AV}{wr:Bool}{es:Nat}{v:AV}(hg:h.get b=some (.cells vs wr es))(hv:vs[o]?=some v):rV .bC [.ptr b o] h=some v:=by
 simp only[rV,l1];rw[uy hg];exact hv
theorem tU{h:Heap}{b o n:Nat}{vs:List AV}{wr:Bool}{es:Nat}(hg:h.get b=some (.cells vs wr es))(hl:o+n≤vs.length):rV (.bn n) [.ptr b o] h=some (.agg ((vs.drop o).take n)):=by
 simp only[rV,l1];rw[jZ hg hl];rfl
theorem st1{h:Heap}{b o n:Nat}{vs:List AV}{es:Nat}{v:AV}(hg:h.get b=some (.cells vs true es))(hn:v.cells.length=n)(hl:Nat.ble (o+n) vs.length=true)(hf:bx v.cells=true):
  eV (.store n) [.ptr b o,v] h=some (.undef,h.set b (.cells (Heap.splice vs o v.cells) true es)):=by
 subst hn;show eI (.store _) [.ptr b o,v] h=_;simp only[eI,Nat.beq_refl,cond_true,Heap.dU,hg,hl,hf,Bool.and_self,Option.map_some]
theorem yo{α:Type}{l:List α}{p:α→Bool}{j:Nat}(hj:j<l.length)(h:p l[j]=false):l.all p=false:=by
 rw[List.all_eq_false];exact⟨l[j],List.getElem_mem hj,by simp[h]⟩
theorem nD{α:Type}{l:List α}{p:α→Bool}{j:Nat}(hj:j<l.length)(hi:(l.take j).all p=true)(h:p l[j]=true):(l.take (j+1)).all p=true:=by
 rw[List.take_succ_eq_append_getElem hj,List.all_append,hi];simp[h]
theorem eY{α:Type}{l:List α}{j:Nat}(hj:j<l.length):l.take (j+1)=l.take j++[l[j]]:=by simp
end
section
def Nl(l0:List bK)(AO:List aQ)(g1:Heap)(k:Nat)(m:aQ):List Nat→Prop
 |[]=>True
 |c::cs=>(cond (Nat.ble c k) (B6 (eO (AO.drop c) g1) (fun _=>true) (l0.drop c) (AO.drop c) (k-c))
   (Nat.ble (c+1) AO.length=true∧((m.v.dt=true∧∀i o,l0[k]?=some i→i.op=.r o→rV o m.vals (eO (AO.drop c) g1)=some m.v)∨∃cs o1,m.vals=[.fp cs o1])))∧Nl l0 AO g1 k m cs
def Nk(l0:List bK)(AO:List aQ)(g1:Heap):Nat→List (List Nat)→List aQ→Prop
 |k,[]::win,m::tr=>Nk l0 AO g1 (k+1) win tr
 |k,(c::cs)::win,m::tr=>(m.on=true→Nl l0 AO g1 k m (c::cs))∧Nk l0 AO g1 (k+1) win tr
 |_,_,_=>True
def Kf(l0:List bK)(AO:List aQ)(g1:Heap)(k:Nat)(m:aQ)(c:Nat):Prop:=
 (c≤k∧B6 (eO (AO.drop c) g1) (fun _=>true) (l0.drop c) (AO.drop c) (k-c))∨
  (k≤c∧c<AO.length∧((m.v.dt=true∧∀i o,l0[k]?=some i→i.op=.r o→rV o m.vals (eO (AO.drop c) g1)=some m.v)∨∃cs o1,m.vals=[.fp cs o1]))
theorem B7{l0:List bK}{AO:List aQ}{g1:Heap}{k:Nat}{m:aQ}:∀{cs:List Nat},Nl l0 AO g1 k m cs→∀c∈cs,Kf l0 AO g1 k m c
 |[],_,c,hc=>by simp at hc
 |d::cs,h,c,hc=>by
  rcases List.mem_cons.1 hc with e|e
  ·subst e;have h1:=h.1;cases hb:Nat.ble c k with
   |true=>rw[hb] at h1;exact .inl ⟨Nat.le_of_ble_eq_true hb,h1⟩
   |false=>
    rw[hb] at h1;refine .inr ⟨?_,Nat.le_of_ble_eq_true h1.1,h1.2⟩;by_cases hl:c≤k
    ·rw[Nat.ble_eq_true_of_le hl] at hb;exact absurd hb (by decide)
    ·omega
  ·exact B7 h.2 c e
theorem E4{l0:List bK}{AO:List aQ}{g1:Heap}:∀{win:List (List Nat)} {tr:List aQ} {k0:Nat},Nk l0 AO g1 k0 win tr→∀(k:Nat) cs m,win[k]?=some cs→tr[k]?=some m→m.on=true→∀c∈cs,Kf l0 AO g1 (k0+k) m c
 |[],_,_,_,k,cs,m,h1,_,_,c,_=>by simp at h1
 |_::_,[],_,_,k,cs,m,_,h2,_,c,_=>by simp at h2
 |ds::win,n::tr,k0,h,0,cs,m,h1,h2,dZ,c,hc=>by
  simp only[List.getElem?_cons_zero,Option.some.injEq] at h1 h2;subst h1 h2;cases ds with
  |nil=>simp at hc
  |cons d ds=>exact B7 (h.1 dZ) c hc
 |ds::win,n::tr,k0,h,k+1,cs,m,h1,h2,dZ,c,hc=>by
  have rF:Nk l0 AO g1 (k0+1) win tr:=by
   cases ds with
   |nil=>exact h
   |cons d ds=>exact h.2
  have:=E4 rF k cs m (by simpa using h1) (by simpa using h2) dZ c hc
  rwa [show k0+1+k=k0+(k+1) by omega] at this
theorem dc{l:List bK}{win:List (List Nat)}{tr:List aQ}{g1:Heap}(h:Nk l tr g1 0 win tr):xF l win tr g1:=by
 intro k i cs m o h1 h2 h3 hop dZ c hc;have:=E4 h k cs m h2 h3 dZ c hc;rw[Nat.zero_add] at this;exact this.imp id fun⟨x,y,z⟩=>⟨x,y,z.imp (fun⟨a,b⟩=>⟨a,b i o h1 hop⟩) id⟩
end
end Ads
end Go.Proofs.Ytepdklcpagielaa
