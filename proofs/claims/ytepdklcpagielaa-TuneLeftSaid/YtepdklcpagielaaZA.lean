/-
  Rows in blocks: filled from the front, grown by append. What values of struct types are. Rows that grow while another one grows: three blocks, of which some may be missing. Rows that lie at a block's start, with room behind them. Small helpers of the document's answers: EqInts, CopyInts, Bring. Heaps of eight blocks, of which some may be missing.
-/
import Derived.Test.YtepdklcpagielaaVsLoop
import Derived.KernelRfl
import Derived.Test.YtepdklcpagielaaVsLaw
import Derived.Test.YtepdklcpagielaaVsTop
import Derived.Test.YtepdklcpagielaaIrLink
set_option maxRecDepth 100000
set_option linter.unusedSimpArgs false
set_option linter.unusedVariables false
namespace Go.Proofs.Ytepdklcpagielaa
open Go Ads
namespace Ads
theorem ya{k:IntKind}(a b:Int)(hb:b≠0):pV (.bin .rem) [.int k a,.int k b]=some (.int k (a.tmod b)):=by
 simp[pV,NC,l2,Fp,Cn,lR,ug,hb]
theorem jU{k:IntKind}(a b:Int)(hb:b≠0):pV (.bin .quo) [.int k a,.int k b]=some (.int k (k.wrap (a.tdiv b))):=by
 simp[pV,NC,l2,Fp,Cn,lR,ug,hb]
theorem wrap_wrap(n:Int):IntKind.i64.wrap (IntKind.i64.wrap n)=IntKind.i64.wrap n:=by simp only[IntKind.wrap_i64];omega
theorem Xu{n:Nat}(h:n<9223372036854775808):IntKind.i64.wrap (n:Int)=n:=IntWalk.i64_in _ (by omega)
theorem gW{P:Nat→Prop}{g:Heap}{b n s:Nat}{l vs:List AV}{wr:Bool}{es:Nat}(hb:P b)(hg:g.get b=some (.cells vs wr es))(hv:vs=ai l)(hs:aW s l=true)(hn:n=l.length)(jQ:bL l=true):
  jo P g (.sl b 0 n n true) (.fz 0 l):=
 .row (s:=s) hb hg hv hs hn (Nat.le_refl _) (by omega) (fun h=>by omega) (fun h=>by omega) jQ
theorem bI{p:Nat→Nat}{n:Nat}{e:Env}{i b o len cap:Nat}{op:Bool}{l:List (Nat×AV)}(h:Tr.get e i=some (.sl (p b) o len cap op))(hb:b<n)(hl:jH p n e l):jH p n e ((i,.sl b o len cap op)::l):=⟨⟨_,h,.sl hb⟩,hl⟩
section
variable {fs:Nat→Option aB} {ms:Nat→String→Option Nat} {B:Nat} {rd:Bool}
theorem bw{f:Nat}{af:aB}{args:List AV}{h:Heap}{Q:AV→Heap→Prop}(hf:fs f=some af)(hlen:args.length≤af.ntmps)
  (hw:mJ af.ntmps args fun e=>VC fs ms h.next false af.body e h (vX af.results Q)):VD fs ms f args h Q:=by
 rw[lI] at hw;exact Ib hf hlen hw
theorem aj{a b:AC}{e:Env}{h:Heap}{Q:AX→Env→Heap→Prop}(z:Bool)
  (hw:tJ fs ms B rd z a e h fun x e1 h1=>match x with|.normal=>VC fs ms B rd b e1 h1 Q|x=>Q x e1 h1):VC fs ms B rd (.seq a b) e h Q:=by
 obtain⟨x,e1,h1,hb,hk⟩:=aa hw;cases x with
 |normal=>
  obtain⟨x2,e2,h2,iH,hk2⟩:=hk;exact⟨_,_,_,.AL hb iH,hk2⟩
 |exit i=>exact⟨_,_,_,.qS hb rfl,hk⟩
 |ret=>exact⟨_,_,_,.qS hb rfl,hk⟩
 |panic v=>exact⟨_,_,_,.qS hb rfl,hk⟩
end
theorem wh{B:Nat}{e:Env}{h H:Heap}{d n:Nat}{l:List (Nat×AV)}{m:List (Nat×dm)}(hH:H=hk n m)(p:Nat→Nat)(hl:jH p n e l)(hm:AS p n h m)
  (hp:∀b c,b∈m.map (·.1)→c∈m.map (·.1)→p b=p c→b=c)(wC:∀b,b<B→p b=b)(hn:B≤n):GC B p e h (ek d l) H:=by
 subst hH;exact QM p hl hm hp wC hn
theorem z8{fs:Nat→Option aB}{ms:Nat→String→Option Nat}{B:Nat}{rd:Bool}{c:AC}{e:Env}{h H:Heap}{Q:AX→Env→Heap→Prop}{d n:Nat}{l:List (Nat×AV)}{m:List (Nat×dm)}(hH:H=hk n m)(p:Nat→Nat)(hl:jH p n e l)(hm:AS p n h m)
  (hp:∀b c,b∈m.map (·.1)→c∈m.map (·.1)→p b=p c→b=c)(wC:∀b,b<B→p b=b)(hn:B≤n)(hw:VC fs ms B rd c (ek d l) H Q):VC fs ms B rd c e h Q:=by
 subst hH;exact Nh d l n m p hl hm hp wC hn hw
theorem FX(x:dm):(⟨1,.node .nil (some x) .nil⟩:Heap)=hk 1 [(0,x)]:=rfl
theorem yW(x y:dm):(⟨2,.node (.node .nil (some y) .nil) (some x) .nil⟩:Heap)=hk 2 [(0,x),(1,y)]:=by kernel_rfl
theorem Lo(x y z:dm):(⟨3,.node (.node .nil (some y) .nil) (some x) (.node .nil (some z) .nil)⟩:Heap)=hk 3 [(0,x),(1,y),(2,z)]:=by kernel_rfl
theorem E1{fs:Nat→Option aB}{ms:Nat→String→Option Nat}{B:Nat}{g:bV}{ps:List Nat}{a b:AC}{e:Env}{h:Heap}{f:Nat}{first aN:List AV}{Q:AX→Env→Heap→Prop}(hao:ey e [g]=true)(De:Env.ev e g=.func (.func f) first aN)
  (hw:VD fs ms f (first++(.yield h.next::aN)) (h.new (.loop 0 none e ps a b)) fun _ h2=>∃x st,h2.get h.next=some (.loop st (eJ x) e ps a b)∧st≠1∧(∀v,x≠.panic v)∧Q x e (h2.set h.next (.loop 3 (eJ x) e ps a b))):
  VC fs ms B false (.rangeFunc g ps a b) e h Q:=by
 obtain⟨v,h2,hb,x,st,h3,h4,h5,h6⟩:=hw;exact⟨x,e,_,.rangeFunc hao De (hb B) h3 h4 h5,h6⟩
theorem z9{fs:Nat→Option aB}{ms:Nat→String→Option Nat}{L:Nat}{args:List AV}{h:Heap}{cF:Option AX}{e:Env}{ps:List Nat}{a b:AC}{k:AV→Heap→Prop}(hg:h.get L=some (.loop 0 cF e ps a b))(hlen:args.length=ps.length)
  (hw:VC fs ms h.next true a (gL ps args e) h fun x e2 h2=>x=.normal∧∃cU,h2.get L=some (.loop 0 cU e ps a b)∧
   VC fs ms h.next true b e2 (h2.set L (.loop 1 cU e ps a b)) fun x e4 h4=>(∀v,x≠.panic v)∧(∃MX rU,h4.get L=some (.loop MX rU e ps a b))∧k (.bool x.bZ) (h4.set L (.loop (bif x.bZ then 0 else 2) (eJ x) e ps a b))):
  ∃v h1,(∀B,VS fs ms B (.dw (.yield L) args h) (.val v h1))∧k v h1:=by
 obtain⟨x,e2,h2,hb,rfl,cU,h3,y,e4,h4,iH,h5,⟨MX,rU,h6⟩,h7⟩:=hw;exact⟨_,_,fun B=>.yield hg hlen hb h3 iH h5 h6,h7⟩
theorem pN{n d st:Nat}{cF:Option AX}{l:List (Nat×AV)}{ps:List Nat}{a b:AC}(h:∀x,x∈l→tZ id n x.2 x.2):mC id n (.loop st cF (ek d l) ps a b) (.loop st cF (ek d l) ps a b):=by
 refine .loop fun i v hv=>⟨v,hv,?_⟩;have h1:=sg d _ i v hv;have:∀{l:List (Nat×AV)},(∀x,x∈l→tZ id n x.2 x.2)→kn l (fun _=>none) i=some v→tZ id n v v:=by
  intro l;induction l with
  |nil=>intro _ h;simp[kn] at h
  |cons p l ih=>
   intro h h2;obtain⟨j,w⟩:=p;simp only[kn] at h2;cases hb:Nat.beq i j with
   |false=>rw[hb] at h2;exact ih (fun x hx=>h x (List.mem_cons_of_mem _ hx)) h2
   |true=>rw[hb] at h2;simp only[cond_true,Option.some.injEq] at h2;subst h2;exact h _ List.mem_cons_self
 exact this h h1
theorem kO{c:Bool}{A B:Prop}(hc:c=true)(h:c=true→A):Ch c A B:=br h (fun h2=>by rw[hc] at h2;exact absurd h2 (by decide))
theorem lY{c:Bool}{A B:Prop}(hc:c=false)(h:c=false→B):Ch c A B:=br (fun h2=>by rw[hc] at h2;exact absurd h2 (by decide)) h
theorem brT{c:Bool}{A B:Prop}(hc:c=true)(h:A):Ch c A B:=br (fun _=>h) (fun h2=>by rw[hc] at h2;exact absurd h2 (by decide))
theorem brF{c:Bool}{A B:Prop}(hc:c=false)(h:B):Ch c A B:=br (fun h2=>by rw[hc] at h2;exact absurd h2 (by decide)) (fun _=>h)
theorem bg{p:Nat→Nat}{n:Nat}{e:Env}{i b o:Nat}{l:List (Nat×AV)}(h:Tr.get e i=some (.ptr (p b) o))(hb:b<n)(hl:jH p n e l):jH p n e ((i,.ptr b o)::l):=⟨⟨_,h,.ptr hb⟩,hl⟩
theorem aR{p:Nat→Nat}{n:Nat}{e:Env}{i b:Nat}{l:List (Nat×AV)}(h:Tr.get e i=some (.yield (p b)))(hb:b<n)(hl:jH p n e l):jH p n e ((i,.yield b)::l):=⟨⟨_,h,.yield hb⟩,hl⟩
def QO:Nat→AV
 |0=>.aD
 |j+1=>.sl 0 0 (j+1) (j+1) true
def K8(s:Nat)(L:List AV):Nat→Heap
 |0=>⟨0,.nil⟩
 |j+1=>⟨1,.node .nil (some (.cells (ai (L.take (j+1))) true s)) .nil⟩
def gv:Nat→Nat
 |0=>3
 |_+1=>0
theorem Vl{P:Nat→Prop}{s:Nat}{L:List AV}(hs:aW s L=true)(hc:bL L=true)(hP:P 0):∀n,n=L.length→jo P (K8 s L n) (QO n) (.fz (gv n) L)
 |0,h=>by
  have:L=[]:=List.length_eq_zero_iff.1 h.symm;subst this;exact .aD
 |n+1,h=>by
  refine gW (b:=0) (s:=s) (wr:=true) (es:=s) (vs:=ai L) hP ?_ rfl hs h hc;show(K8 s L (n+1)).get 0=_;simp only[K8,h,List.take_length];rfl
def K9(L:List Int):Nat→Heap
 |0=>⟨0,.nil⟩
 |j+1=>⟨1,.node .nil (some (.cells (ints (L.take (j+1))) true 1)) .nil⟩
theorem Um{P:Nat→Prop}{L:List Int}(hP:P 0):∀n,n=L.length→jo P (K9 L n) (QO n) (.fz (gv n) (ints L))
 |0,h=>by
  have:L=[]:=List.length_eq_zero_iff.1 h.symm;subst this;exact .aD
 |n+1,h=>by
  refine gW (b:=0) (s:=1) (wr:=true) (es:=1) (vs:=ints L) hP ?_ (sS L).symm (lF L) (by rw[cu];exact h) (aS L);show(K9 L (n+1)).get 0=_;simp only[K9,h,List.take_length];rfl
theorem ep{p:Nat→Nat}{n:Nat}{M vs:List AV}{wr:Bool}{es:Nat}(h:vs=M)(hc:bL M=true):mC p n (.cells M wr es) (.cells vs wr es):=by
 subst h;refine .cells rfl fun i x y hx hy=>?_;rw[hx] at hy;cases hy
 exact .cl (fQ hc hx)
theorem tj{p:Nat→Nat}{n:Nat}{M:List Int}{vs:List AV}{wr:Bool}{es:Nat}(h:vs=ints M):mC p n (.cells (ints M) wr es) (.cells vs wr es):=ep h (aS M)
theorem UR{nx:Nat}{tr:Tr dm}{b n:Nat}{vs:List AV}{x:AV}{m:Int}(hg:Heap.get ⟨nx,tr⟩ b=some (.cells vs true 1))(hv:vs.length=n)(hn:n≤1048576)(hs:iw 1 ⟨nx,tr⟩ x=some (1,[.int .i64 m])):
  eV (.append 1 8) [.sl b 0 n n true,x] ⟨nx,tr⟩=some (.sl nx 0 (n+1) (n+1) true,⟨nx+1,Tr.set (Heap.del ⟨nx,tr⟩ b).m nx (.cells (vs++[.int .i64 m]) true 1)⟩):=by
 subst hv;have hl:Heap.bn ⟨nx,tr⟩ b 0 (vs.length*1)=some vs:=by
  rw[jZ hg (by simp)];simp
 have b1:Nat.ble (vs.length+1) vs.length=false:=by
  cases hb:Nat.ble (vs.length+1) vs.length with
  |false=>rfl
  |true=>have:=Nat.le_of_ble_eq_true hb;omega
 have b2:Nat.ble ((vs.length+1)*8) 140737488355328=true:=Nat.ble_eq_true_of_le (by omega);have b3:Nat.ble (vs.length+1) 9223372036854775807=true:=Nat.ble_eq_true_of_le (by omega);have b4:Nat.beq 1 0=false:=rfl;have b5:Nat.beq vs.length (0+vs.length*1)=true:=by rw[Nat.zero_add,Nat.mul_one];exact Nat.beq_refl _
 have b6:Nat.beq vs.length vs.length=true:=Nat.beq_refl _;have b7:Nat.beq 1 1=true:=rfl;simp only[eV,l2,hs];show cond (bx [AV.int .i64 m]) _ _=_;rw[show bx [AV.int .i64 m]=true from rfl,cond_true,b4,Bool.false_and,cond_false,b1,cond_false,b2,b3,Bool.and_self,cond_true,hg,hl];simp only[b5,b6,b7,Bool.and_self,cond_true];rfl
theorem UQ{nx:Nat}{tr:Tr dm}{x:AV}{m:Int}(hs:iw 1 ⟨nx,tr⟩ x=some (1,[.int .i64 m])):
  eV (.append 1 8) [.aD,x] ⟨nx,tr⟩=some (.sl nx 0 1 1 true,⟨nx+1,Tr.set tr nx (.cells [.int .i64 m] true 1)⟩):=by
 simp only[eV,l2,hs];rfl
theorem LO{b n cap j:Nat}{op:Bool}(h:j<n):pV (.aE 1) [.sl b 0 n cap op,.int .i64 (j:Nat)]=some (.ptr b j):=by
 have b1:Nat.ble (j+1) n=true:=Nat.ble_eq_true_of_le h;simp only[pV,l2,uo];show cond (Nat.ble (j+1) n) (some (AV.ptr b (0+j*1))) none=_;rw[b1,cond_true,Nat.zero_add,Nat.mul_one]
theorem A9{s bytes nx:Nat}{tr:Tr dm}{b n:Nat}{vs cs:List AV}{x:AV}(hg:Heap.get ⟨nx,tr⟩ b=some (.cells vs true s))(hv:vs.length=n*s)(hn:n≤1048576)(hb:bytes≤1048576)
  (hs:iw s ⟨nx,tr⟩ x=some (1,cs))(hf:bx cs=true):
  eV (.append s bytes) [.sl b 0 n n true,x] ⟨nx,tr⟩=some (.sl nx 0 (n+1) (n+1) true,⟨nx+1,Tr.set (Heap.del ⟨nx,tr⟩ b).m nx (.cells (vs++cs) true s)⟩):=by
 have hl:Heap.bn ⟨nx,tr⟩ b 0 (n*s)=some vs:=by
  rw[jZ hg (by omega),List.drop_zero,←hv,List.take_length]
 have b1:Nat.ble (n+1) n=false:=by
  cases hb:Nat.ble (n+1) n with
  |false=>rfl
  |true=>have:=Nat.le_of_ble_eq_true hb;omega
 have hm:(n+1)*bytes≤1048577*1048576:=Nat.mul_le_mul (by omega) hb;have b2:Nat.ble ((n+1)*bytes) 140737488355328=true:=Nat.ble_eq_true_of_le (by omega);have b3:Nat.ble (n+1) 9223372036854775807=true:=Nat.ble_eq_true_of_le (by omega);have b4:Nat.beq 1 0=false:=rfl;have b5:Nat.beq vs.length (0+n*s)=true:=by rw[Nat.zero_add,hv];exact Nat.beq_refl _
 have b6:Nat.beq n n=true:=Nat.beq_refl _;have b7:Nat.beq s s=true:=Nat.beq_refl _;simp only[eV,l2,hs];show cond (bx cs) _ _=_;rw[hf,cond_true,b4,Bool.false_and,cond_false,b1,cond_false,b2,b3,Bool.and_self,cond_true,hg,hl];simp only[b5,b6,b7,Bool.and_self,cond_true];rfl
theorem sI{s bytes nx:Nat}{tr:Tr dm}{x:AV}{cs:List AV}(hb:bytes≤1048576)(hs:iw s ⟨nx,tr⟩ x=some (1,cs))(hf:bx cs=true):
  eV (.append s bytes) [.aD,x] ⟨nx,tr⟩=some (.sl nx 0 1 1 true,⟨nx+1,Tr.set tr nx (.cells cs true s)⟩):=by
 have b2:Nat.ble (1*bytes) 140737488355328=true:=Nat.ble_eq_true_of_le (by omega);simp only[eV,l2,hs];show cond (bx cs) _ _=_;rw[hf,cond_true];show cond (Nat.ble (1*bytes) 140737488355328&&true) _ _=_;rw[b2];rfl
theorem G0:∀n:Nat,ej [.int .i64 0] n=ints (List.replicate n 0):=by
 intro n;induction n with
 |zero=>rfl
 |succ n ih=>
  show _=AV.int .i64 0::ints (List.replicate n 0);rw[←ih];rfl
theorem CH{n:Nat}(hn:n≤17592186044416):aI (.m0 [.int .i64 0] 1 8) [.int .i64 (n:Nat),.int .i64 (n:Nat)]=some (.cells (ints (List.replicate n 0)) true 0,fun b=>.sl b 0 n n false):=by
 have b1:Nat.ble n n=true:=Nat.ble_eq_true_of_le (Nat.le_refl _);have b2:Nat.ble (8*n) 140737488355328=true:=Nat.ble_eq_true_of_le (by omega);have b3:Nat.ble n 9223372036854775807=true:=Nat.ble_eq_true_of_le (by omega);show cond (Nat.ble n n&&Nat.ble (8*n) 140737488355328&&Nat.ble n 9223372036854775807) (some (dm.cells (ej [AV.int .i64 0] n) true 0,fun b=>AV.sl b 0 n n false)) none=_;rw[b1,b2,b3,G0];rfl
def kf(ts:List Int)(j:Nat):List Int:=ts.take j++List.replicate (ts.length-j) 0
theorem rM(ts:List Int){j:Nat}(h:j≤ts.length):(kf ts j).length=ts.length:=by simp[kf];omega
theorem DR(ts:List Int):kf ts ts.length=ts:=by simp[kf]
theorem Bn(ts:List Int):kf ts 0=List.replicate ts.length 0:=by simp[kf]
theorem nu{α:Type}:∀(l:List α) (o:Nat) (x:α),o<l.length→Heap.splice l o [x]=l.set o x
 |[],o,x,h=>by simp at h
 |y::l,0,x,h=>by
  show x::Heap.splice l 0 []=_;have:Heap.splice l 0 []=l:=by cases l<;>rfl
  rw[this];rfl
 |y::l,o+1,x,h=>by
  show y::Heap.splice l o [x]=_;rw[nu l o x (by simpa using h)];rfl
theorem IP(ts:List Int){j:Nat}(h:j<ts.length):(kf ts j).set j ts[j]=kf ts (j+1):=by
 apply List.ext_getElem
 ·rw[List.length_set,rM ts (by omega),rM ts (by omega)]
 ·intro i h1 h2;rw[List.getElem_set];simp only[kf,List.getElem_append,List.length_take,List.getElem_take,List.getElem_replicate];by_cases e:j=i
  ·subst e;simp only[if_true];rw[dif_pos (by omega)]
  ·rw[if_neg e];by_cases e2:i<j
   ·rw[dif_pos (by omega),dif_pos (by omega)]
   ·rw[dif_neg (by omega),dif_neg (by omega)]
theorem DT(ts:List Int){j:Nat}(h:j<ts.length){x:Int}(hx:x=ts[j]):Heap.splice (ints (kf ts j)) j [.int .i64 x]=ints (kf ts (j+1)):=by
 subst hx;rw[nu _ _ _ (by rw[cu,rM ts (by omega)];exact h),←IP ts h];simp[ints,List.map_set]
end Ads
end Go.Proofs.Ytepdklcpagielaa
namespace Go.Proofs.Ytepdklcpagielaa
open Go
namespace Ads
section
variable {P:Program}
def DV(t:TypeId):Bool:=match P.underlying t with
 |some (.int _)=>true
 |some .bool=>true
 |some .string=>true
 |some (.slice _)=>true
 |_=>false
def Hq(fs:Array Field):Nat→Bool
 |0=>true
 |n+1=>(match fs[n]? with|some f=>Nat.beq f.offset n&&DV (P:=P) f.type&&Nat.beq (P.cellsOf f.type) 1|none=>false)&&Hq fs n
theorem Bo{fs:Array Field}:∀{n:Nat},Hq (P:=P) fs n=true→∀i,i<n→∃f,fs[i]?=some f∧f.offset=i∧DV (P:=P) f.type=true∧P.cellsOf f.type=1
 |0,_,i,hi=>by omega
 |n+1,h,i,hi=>by
  simp only[Hq,Bool.and_eq_true] at h;by_cases e:i=n
  ·subst e;have h1:=h.1;split at h1
   ·rename_i f hf;simp only[Bool.and_eq_true] at h1;exact⟨f,hf,Nat.eq_of_beq_eq_true h1.1.1,h1.1.2,Nat.eq_of_beq_eq_true h1.2⟩
   ·simp at h1
  ·exact Bo h.2 i (by omega)
theorem FI{t:TypeId}{x:AV}(h:cP P t x)(hf:DV (P:=P) t=true):x.cells=[x]:=by
 cases h with
 |struct h1=>simp[DV,h1] at hf
 |array h1=>simp[DV,h1] at hf
 |_=>rfl
theorem oF{t:TypeId}{fs:Array Field}{x:AV}{n:Nat}(h:cP P t x)(hu:P.underlying t=some (.struct fs))(hc:P.cellsOf t=n)(hs:fs.size=n)(hf:Hq (P:=P) fs n=true):
  ∃cs:List AV,x=.agg cs∧cs.length=n∧∀(i:Nat) (f:Field) (y:AV),fs[i]?=some f→cs[i]?=some y→cP P f.type y:=by
 obtain⟨cs,ys,rfl,h1,h2,h3⟩:=JP h hu;refine⟨cs,rfl,by omega,fun i f y Y1 hy=>?_⟩;have hi:i<n:=by have:=(List.getElem?_eq_some_iff.1 hy).1;omega
 obtain⟨g,g1,g2,g3,g4⟩:=Bo hf i hi;rw[g1] at Y1;cases Y1
 have hz:ys[i]?=some (ys[i]'(by omega)):=List.getElem?_eq_getElem _;obtain⟨k1,k2⟩:=h3 i f _ g1 hz;rw[FI k1 g3,g2,g4] at k2;have:cs[i]?=some (ys[i]'(by omega)):=by
  have:=congrArg (fun l=>l[0]?) k2;simpa using this.symm
 rw[hy] at this;cases this
 exact k1
end
end Ads
end Go.Proofs.Ytepdklcpagielaa
namespace Go.Proofs.Ytepdklcpagielaa
open Go Ads
namespace Ads
section
variable {fs:Nat→Option aB} {ms:Nat→String→Option Nat} {rd:Bool}
theorem DW{c:AC}{Q:AX→Env→Heap→Prop}(B d N:Nat)(I:Nat→Prop)(E:Nat→List (Nat×AV))(H:Nat→Heap)
  (step:∀j,j<N→I j→tJ fs ms B rd false c (ek d (E j)) (H j) fun x e1 h1=>match x with|.normal=>I (j+1)∧∃p,GC B p e1 h1 (ek d (E (j+1))) (H (j+1))|x=>Q x e1 h1)
  (last:I N→VC fs ms B rd (.loop c) (ek d (E N)) (H N) Q)
  (h0:I 0):VC fs ms B rd (.loop c) (ek d (E 0)) (H 0) Q:=by
 have:∀r j,j+r=N→I j→VC fs ms B rd (.loop c) (ek d (E j)) (H j) Q:=by
  intro r;induction r with
  |zero=>
   intro j hj hi;have:j=N:=by omega
   subst this;exact last hi
  |succ r ih=>
   intro j hj hi;obtain⟨x,e1,h1,hb,hk⟩:=aa (step j (by omega) hi);cases x with
   |normal=>
    obtain⟨hi',p,hr⟩:=hk;obtain⟨x2,e2,h2,iH,hk2⟩:=z7 hr (ih (j+1) (by omega) hi');exact⟨_,_,_,.nP hb iH,hk2⟩
   |exit i=>exact⟨_,_,_,.dJ hb rfl,hk⟩
   |ret=>exact⟨_,_,_,.dJ hb rfl,hk⟩
   |panic v=>exact⟨_,_,_,.dJ hb rfl,hk⟩
 exact this N 0 (by omega) h0
theorem Vd{c:AC}{Q:AX→Env→Heap→Prop}(d N:Nat)(E:Nat→List (Nat×AV))
  (step:∀j,j<N→tJ fs ms 0 rd false c (ek d (E j)) (hk 0 []) fun x e1 h1=>match x with|.normal=>True∧jH id 0 e1 (E (j+1))|x=>Q x e1 h1)
  (last:VC fs ms 0 rd (.loop c) (ek d (E N)) (hk 0 []) Q):VC fs ms 0 rd (.loop c) (ek d (E 0)) (hk 0 []) Q:=by
 have:∀r j,j+r=N→VC fs ms 0 rd (.loop c) (ek d (E j)) (hk 0 []) Q:=by
  intro r;induction r with
  |zero=>
   intro j hj;have:j=N:=by omega
   subst this;exact last
  |succ r ih=>
   intro j hj;obtain⟨x,e1,h1,hb,hk⟩:=aa (step j (by omega));cases x with
   |normal=>
    obtain⟨x2,e2,h2,iH,hk2⟩:=ei (h:=h1) d (E (j+1)) hk.2 (ih (j+1) (by omega));exact⟨_,_,_,.nP hb iH,hk2⟩
   |exit i=>exact⟨_,_,_,.dJ hb rfl,hk⟩
   |ret=>exact⟨_,_,_,.dJ hb rfl,hk⟩
   |panic v=>exact⟨_,_,_,.dJ hb rfl,hk⟩
 exact this N 0 (by omega)
theorem K1{c:AC}{Q:AX→Env→Heap→Prop}(B d N:Nat)(E:Nat→List (Nat×AV))(H:Nat→Heap)
  (step:∀j,j<N→∀K:AX→Env→Heap→Prop,(∀e1 h1 p,GC B p e1 h1 (ek d (E (j+1))) (H (j+1))→K .normal e1 h1)→VC fs ms B rd c (ek d (E j)) (H j) K)
  (last:VC fs ms B rd (.loop c) (ek d (E N)) (H N) Q):VC fs ms B rd (.loop c) (ek d (E 0)) (H 0) Q:=by
 have:∀r j,j+r=N→VC fs ms B rd (.loop c) (ek d (E j)) (H j) Q:=by
  intro r;induction r with
  |zero=>
   intro j hj;have:j=N:=by omega
   subst this;exact last
  |succ r ih=>
   intro j hj;obtain⟨x,e1,h1,hb,hk⟩:=step j (by omega) (fun x e1 h1=>x=.normal∧∃p,GC B p e1 h1 (ek d (E (j+1))) (H (j+1))) (fun e1 h1 p hg=>⟨rfl,p,hg⟩);obtain⟨rfl,p,hr⟩:=hk;obtain⟨x2,e2,h2,iH,hk2⟩:=z7 hr (ih (j+1) (by omega));exact⟨_,_,_,.nP hb iH,hk2⟩
 exact this N 0 (by omega)
theorem az{B:Nat}{a b:AC}{e:Env}{h:Heap}{Q:AX→Env→Heap→Prop}
  (hw:VC fs ms B rd a e h fun x e1 h1=>match x with|.normal=>VC fs ms B rd b e1 h1 Q|x=>Q x e1 h1):VC fs ms B rd (.seq a b) e h Q:=by
 obtain⟨x,e1,h1,hb,hk⟩:=hw;cases x with
 |normal=>
  obtain⟨x2,e2,h2,iH,hk2⟩:=hk;exact⟨_,_,_,.AL hb iH,hk2⟩
 |exit i=>exact⟨_,_,_,.qS hb rfl,hk⟩
 |ret=>exact⟨_,_,_,.qS hb rfl,hk⟩
 |panic v=>exact⟨_,_,_,.qS hb rfl,hk⟩
theorem aL{B id:Nat}{c:AC}{e:Env}{h:Heap}{Q:AX→Env→Heap→Prop}
  (hw:VC fs ms B rd c e h fun x e1 h1=>match x with|.exit i=>(if i=id then Q .normal e1 h1 else Q (.exit i) e1 h1)|x=>Q x e1 h1):VC fs ms B rd (.block id c) e h Q:=by
 obtain⟨x,e1,h1,hb,hk⟩:=hw;cases x with
 |normal=>exact⟨_,_,_,.gE hb (by intro i hi;cases hi),hk⟩
 |exit i=>
  by_cases hi:i=id
  ·subst hi;simp only[if_true] at hk;exact⟨_,_,_,.pX hb,hk⟩
  ·simp only[hi,if_false] at hk;exact⟨_,_,_,.gE hb (by intro i2 hi2;cases hi2;exact hi),hk⟩
 |ret=>exact⟨_,_,_,.gE hb (by intro i hi;cases hi),hk⟩
 |panic v=>exact⟨_,_,_,.gE hb (by intro i hi;cases hi),hk⟩
end
abbrev H3(O X I:Option dm):Heap:=⟨3,.node (.node .nil X .nil) O (.node .nil I .nil)⟩
theorem Sb{b:Nat}{O X I:Option dm}{x:dm}(h:(H3 O X I).get b=some x):(b=0∧O=some x)∨(b=1∧X=some x)∨(b=2∧I=some x):=by
 match b,h with
 |0,h=>exact .inl ⟨rfl,h⟩
 |1,h=>exact .inr (.inl ⟨rfl,h⟩)
 |2,h=>exact .inr (.inr ⟨rfl,h⟩)
 |b+3,h=>
  exfalso;rcases Nat.mod_two_eq_zero_or_one (b+3) with h2|h2
  ·have e1:Nat.beq ((b+3)/2-1) 0=false:=by
    cases hq:(b+3)/2-1 with
    |zero=>omega
    |succ n=>rfl
   simp only[Heap.get,Tr.get,h2,e1,show Nat.beq (b+3) 0=false from rfl,cond_false,show Nat.beq 0 1=false from rfl] at h;revert h;cases Nat.beq (((b+3)/2-1)%2) 1<;>simp
  ·have e1:Nat.beq ((b+3)/2) 0=false:=by
    cases hq:(b+3)/2 with
    |zero=>omega
    |succ n=>rfl
   simp only[Heap.get,Tr.get,h2,e1,show Nat.beq (b+3) 0=false from rfl,cond_false,show Nat.beq 1 1=true from rfl,cond_true] at h;revert h;cases Nat.beq (((b+3)/2)%2) 1<;>simp
theorem Uk{B:Nat}{e:Env}{h:Heap}{d:Nat}{l:List (Nat×AV)}{O X I:Option dm}(p:Nat→Nat)(hl:jH p 3 e l)
  (hO:∀x,O=some x→∃y,h.get (p 0)=some y∧mC p 3 x y)(hX:∀x,X=some x→∃y,h.get (p 1)=some y∧mC p 3 x y)(hI:∀x,I=some x→∃y,h.get (p 2)=some y∧mC p 3 x y)
  (YR:p 0≠p 1)(YS:p 0≠p 2)(h12:p 1≠p 2)(wC:∀b,b<B→p b=b)(hn:B≤3):GC B p e h (ek d l) (H3 O X I):=by
 refine⟨?_,?_,?_,wC,hn⟩
 ·intro i v hv;exact pM hl (sg d _ i v hv)
 ·intro b x hx;rcases Sb hx with⟨rfl,h1⟩|⟨rfl,h1⟩|⟨rfl,h1⟩
  ·exact⟨by show 0<3;omega,hO x h1⟩
  ·exact⟨by show 1<3;omega,hX x h1⟩
  ·exact⟨by show 2<3;omega,hI x h1⟩
 ·intro b c hb hc he;cases hx:(H3 O X I).get b with
  |none=>exact absurd hx hb
  |some x=>
   cases hy:(H3 O X I).get c with
   |none=>exact absurd hy hc
   |some y=>
    rcases Sb hx with⟨rfl,-⟩|⟨rfl,-⟩|⟨rfl,-⟩<;>rcases Sb hy with⟨rfl,-⟩|⟨rfl,-⟩|⟨rfl,-⟩<;>first|rfl|exact absurd he YR|exact absurd he YS|exact absurd he h12|exact absurd he.symm YR|exact absurd he.symm YS|exact absurd he.symm h12
theorem GV{fs:Nat→Option aB}{ms:Nat→String→Option Nat}{B:Nat}{rd:Bool}{c:AC}{e:Env}{h:Heap}{Q:AX→Env→Heap→Prop}{d:Nat}{l:List (Nat×AV)}{O X I:Option dm}(p:Nat→Nat)(hl:jH p 3 e l)
  (hO:∀x,O=some x→∃y,h.get (p 0)=some y∧mC p 3 x y)(hX:∀x,X=some x→∃y,h.get (p 1)=some y∧mC p 3 x y)(hI:∀x,I=some x→∃y,h.get (p 2)=some y∧mC p 3 x y)
  (YR:p 0≠p 1)(YS:p 0≠p 2)(h12:p 1≠p 2)(wC:∀b,b<B→p b=b)(hn:B≤3)(hw:VC fs ms B rd c (ek d l) (H3 O X I) Q):VC fs ms B rd c e h Q:=
 z7 (Uk p hl hO hX hI YR YS h12 wC hn) hw
def Cln(O:Option dm):Prop:=∀x,O=some x→∃M s,x=.cells M true s∧bL M=true
theorem Hf{O:Option dm}{p:Nat→Nat}{n:Nat}{h:Heap}{b:Nat}(hc:Cln O)(hg:h.get b=O):∀x,O=some x→∃y,h.get b=some y∧mC p n x y:=by
 intro x hx;obtain⟨M,s,rfl,hM⟩:=hc x hx;exact⟨_,hg.trans hx,ep rfl hM⟩
theorem jt{h:Heap}{b:Nat}{p:Nat→Nat}{n:Nat}:∀x,(none:Option dm)=some x→∃y,h.get b=some y∧mC p n x y:=by
 intro x hx;cases hx
theorem sX{h:Heap}{b:Nat}{p:Nat→Nat}{n:Nat}{z:dm}(hg:∃y,h.get b=some y∧mC p n z y):∀x,some z=some x→∃y,h.get b=some y∧mC p n x y:=by
 intro x hx;cases hx
 exact hg
theorem acB{p:Nat→Nat}{n es:Nat}{wr:Bool}{a b c a' b' c':AV}(h1:tZ p n a a')(h2:tZ p n b b')(h3:tZ p n c c'):mC p n (.cells [a,b,c] wr es) (.cells [a',b',c'] wr es):=by
 refine .cells rfl fun i x y hx hy=>?_
 match i,hx,hy with
 |0,hx,hy=>cases hx;cases hy;exact h1
 |1,hx,hy=>cases hx;cases hy;exact h2
 |2,hx,hy=>cases hx;cases hy;exact h3
def JU(b:Nat):Nat→AV
 |0=>.aD
 |j+1=>.sl b 0 (j+1) (j+1) true
def K5(s:Nat)(L:List AV):Nat→Option dm
 |0=>none
 |j+1=>some (.cells (ai (L.take (j+1))) true s)
theorem sR:∀{l:List AV},bL l=true→bL (ai l)=true
 |[],_=>rfl
 |x::l,h=>by
  simp only[bL,Bool.and_eq_true] at h;exact sL (cI h.1) (sR h.2)
theorem uR{l:List AV}(h:bL l=true)(j:Nat):bL (l.take j)=true:=by
 induction l generalizing j with
 |nil=>simp[bL]
 |cons x l ih=>
  simp only[bL,Bool.and_eq_true] at h;cases j with
  |zero=>rfl
  |succ j=>simp only[List.take_succ_cons,bL,h.1,Bool.true_and];exact ih h.2 j
theorem K6{s:Nat}{L:List AV}(h:bL L=true):∀j,Cln (K5 s L j)
 |0,x,hx=>by cases hx
 |j+1,x,hx=>by
  cases hx
  exact⟨_,_,rfl,sR (uR h _)⟩
theorem K7{p:Nat→Nat}{n b c:Nat}(hp:p b=c)(hb:b<n):∀j,tZ p n (JU b j) (JU c j)
 |0=>.cl rfl
 |j+1=>by
  subst hp;exact .sl hb
theorem Sd{P:Nat→Prop}{g:Heap}{b s:Nat}{L:List AV}(hs:aW s L=true)(hc:bL L=true)(hP:P b):∀n,n=L.length→g.get b=K5 s L n→jo P g (JU b n) (.fz (gv n) L)
 |0,h,_=>by
  have:L=[]:=List.length_eq_zero_iff.1 h.symm;subst this;exact .aD
 |n+1,h,hg=>by
  refine gW (b:=b) (s:=s) (wr:=true) (es:=s) (vs:=ai L) hP ?_ rfl hs h hc;rw[hg,K5,h,List.take_length]
theorem c9:∀{l:List AV} {s:Nat},aW s l=true→(ai l).length=l.length*s
 |[],s,_=>by simp[ai]
 |x::l,s,h=>by
  simp only[aW,Bool.and_eq_true] at h;have:=Nat.eq_of_beq_eq_true h.1;show(x.cells++ai l).length=_;rw[List.length_append,c9 h.2,List.length_cons,this,Nat.succ_mul];omega
theorem kE:∀(l m:List AV),ai (l++m)=ai l++ai m
 |[],m=>rfl
 |x::l,m=>by
  show x.cells++ai (l++m)=(x.cells++ai l)++ai m;rw[kE l m,List.append_assoc]
theorem size_take{l:List AV}{s:Nat}(h:aW s l=true)(j:Nat):aW s (l.take j)=true:=by
 induction l generalizing j with
 |nil=>simp[aW]
 |cons x l ih=>
  simp only[aW,Bool.and_eq_true] at h;cases j with
  |zero=>rfl
  |succ j=>simp only[List.take_succ_cons,aW,h.1,Bool.true_and];exact ih h.2 j
theorem UP{s bytes nx:Nat}{tr:Tr dm}{b:Nat}{x:AV}{cs:List AV}(hs:iw s ⟨nx,tr⟩ x=some (0,cs))(hf:bx cs=true):
  eV (.append s bytes) [.sl b 0 0 0 false,x] ⟨nx,tr⟩=some (.sl b 0 0 0 false,⟨nx,tr⟩):=by
 simp only[eV,l2,hs];show cond (bx cs) _ _=_;rw[hf,cond_true];rfl
theorem Ce{s bytes nx n:Nat}{tr:Tr dm}{b:Nat}{x:AV}{cs:List AV}{wr:Bool}{es:Nat}(hg:Heap.get ⟨nx,tr⟩ b=some (.cells [] wr es))(hb:bytes≤1048576)(hn:n≤1048576)(hs:iw s ⟨nx,tr⟩ x=some (n+1,cs))(hf:bx cs=true):
  eV (.append s bytes) [.sl b 0 0 0 false,x] ⟨nx,tr⟩=some (.sl nx 0 (n+1) (n+1) true,⟨nx+1,Tr.set tr nx (.cells cs true s)⟩):=by
 have hl:Heap.bn ⟨nx,tr⟩ b 0 (0*s)=some []:=by
  rw[jZ hg (by simp)];simp
 have hm:(n+1)*bytes≤1048577*1048576:=Nat.mul_le_mul (by omega) hb;have b2:Nat.ble ((0+(n+1))*bytes) 140737488355328=true:=Nat.ble_eq_true_of_le (by rw[Nat.zero_add];omega);have b3:Nat.ble (0+(n+1)) 9223372036854775807=true:=Nat.ble_eq_true_of_le (by omega);have b4:Nat.beq (n+1) 0=false:=rfl;have b1:Nat.ble (0+(n+1)) 0=false:=by
  cases hb:Nat.ble (0+(n+1)) 0 with
  |false=>rfl
  |true=>have:=Nat.le_of_ble_eq_true hb;omega
 simp only[eV,l2,hs];show cond (bx cs) _ _=_;rw[hf,cond_true,b4,Bool.false_and,cond_false,b1,cond_false,b2,b3,Bool.and_self,cond_true,hg,hl];simp only[cond_false,Nat.zero_add];rfl
theorem AZ{s bytes nx:Nat}{tr:Tr dm}{x:AV}{cs:List AV}(hs:iw s ⟨nx,tr⟩ x=some (0,cs))(hf:bx cs=true):
  eV (.append s bytes) [.aD,x] ⟨nx,tr⟩=some (.aD,⟨nx,tr⟩):=by
 simp only[eV,l2,hs];show cond (bx cs) _ _=_;rw[hf,cond_true];rfl
theorem A1{s bytes nx n:Nat}{tr:Tr dm}{x:AV}{cs:List AV}(hb:bytes≤1048576)(hn:n≤1048576)(hs:iw s ⟨nx,tr⟩ x=some (n+1,cs))(hf:bx cs=true):
  eV (.append s bytes) [.aD,x] ⟨nx,tr⟩=some (.sl nx 0 (n+1) (n+1) true,⟨nx+1,Tr.set tr nx (.cells cs true s)⟩):=by
 have hm:(n+1)*bytes≤1048577*1048576:=Nat.mul_le_mul (by omega) hb;have b2:Nat.ble ((n+1)*bytes) 140737488355328=true:=Nat.ble_eq_true_of_le (by omega);have b3:Nat.ble (n+1) 9223372036854775807=true:=Nat.ble_eq_true_of_le (by omega);have b4:Nat.beq (n+1) 0=false:=rfl;simp only[eV,l2,hs];show cond (bx cs) _ _=_;rw[hf,cond_true,b4,cond_false,b2,b3,Bool.and_self,cond_true];rfl
theorem qB{s k:Nat}{l:List AV}{h:Heap}(hs:aW s l=true):iw s h (.fz k l)=some (l.length,ai l):=by
 simp only[iw,hs,cond_true]
theorem Zy{fs:Nat→Option aB}{ms:Nat→String→Option Nat}{f:Nat}{args args':List AV}{h H:Heap}{Q:AV→Heap→Prop}(bs:List Nat)(hH:ck bs h=H)(hf:pT (· ∈bs) h args args')(hw:VD fs ms f args' H Q):VD fs ms f args h Q:=
 wW bs hf (hH▸hw)
end Ads
end Go.Proofs.Ytepdklcpagielaa
namespace Go.Proofs.Ytepdklcpagielaa
open Go Ads
namespace Ads
theorem c8{α:Type}:∀(l:List α) (o:Nat),Heap.splice l o []=l
 |[],0=>rfl
 |[],o+1=>rfl
 |x::l,0=>rfl
 |x::l,o+1=>by
  show x::Heap.splice l o []=_;rw[c8 l o]
theorem xC{α:Type}:∀(xs r:List α),xs.length≤r.length→Heap.splice r 0 xs=xs++r.drop xs.length
 |[],r,_=>by rw[c8];simp
 |x::xs,[],h=>by simp at h
 |x::xs,y::r,h=>by
  show x::Heap.splice r 0 xs=_;rw[xC xs r (by simpa using h)];rfl
theorem zW{α:Type}:∀(a r xs:List α),xs.length≤r.length→Heap.splice (a++r) a.length xs=a++xs++r.drop xs.length
 |[],r,xs,h=>by simpa using xC xs r h
 |x::a,r,[],h=>by rw[c8];simp
 |x::a,r,y::xs,h=>by
  show x::Heap.splice (a++r) a.length (y::xs)=_;rw[zW a r (y::xs) h];rfl
theorem YO{P:Nat→Prop}{g:Heap}{b n cap s:Nat}{op:Bool}{l rest vs:List AV}{wr:Bool}{es:Nat}(hb:P b)(hg:g.get b=some (.cells vs wr es))(hv:vs=ai l++rest)(hs:aW s l=true)
  (hn:n=l.length)(hcap:n≤cap)(jQ:bL l=true):jo P g (.sl b 0 n cap op) (.fz 0 l):=by
 subst hv;have hf:=l6 hs;refine .sl hb hg hs hn (by rw[List.length_append,hf.1];omega) hcap (by omega) (fun h=>by omega) (fun h=>by omega) ?_;intro i x j c y hx hc hy;rw[Nat.zero_add] at hy;have e1:=dN hs hx;have l1:=(List.getElem?_eq_some_iff.1 hc).1;have l0:=(List.getElem?_eq_some_iff.1 hx).1;have hlt:i*s+j<(ai l).length:=by
  rw[hf.1]
  calc i*s+j<i*s+s:=by omega
   _=(i+1)*s:=(Nat.succ_mul i s).symm
   _≤l.length*s:=Nat.mul_le_mul_right _ l0
 rw[List.getElem?_append_left hlt] at hy;rw[p9 hs hx hc] at hy;cases hy
 exact .clean (fQ (cI (fQ jQ hx)) hc)
theorem aaC{s bytes nx:Nat}{tr:Tr dm}{b m cap es:Nat}{op:Bool}{l rest vs:List AV}{x y:AV}(hg:Heap.get ⟨nx,tr⟩ b=some (.cells vs true es))(hv:vs=ai l++rest)(hs:aW s l=true)(hm:m=l.length)
  (hcap:m<cap)(hr:rest.length=(cap-m)*s)(hsrc:iw s ⟨nx,tr⟩ x=some (1,y.cells))(hy:y.cells.length=s)(hf:bx y.cells=true):
  eV (.append s bytes) [.sl b 0 m cap op,x] ⟨nx,tr⟩=some (.sl b 0 (m+1) cap op,⟨nx,Tr.set tr b (.cells (ai (l++[y])++rest.drop s) true es)⟩):=by
 subst hv hm;have b1:Nat.ble (l.length+1) cap=true:=Nat.ble_eq_true_of_le hcap;have b4:Nat.beq 1 0=false:=rfl;have hfl:=(l6 hs).1;have xO:s≤rest.length:=by
  rw[hr]
  calc s=1*s:=(Nat.one_mul s).symm
   _≤_:=Nat.mul_le_mul_right _ (by omega)
 have hb:Nat.ble (0+l.length*s+y.cells.length) (ai l++rest).length=true:=Nat.ble_eq_true_of_le (by rw[List.length_append,hfl,hy];omega);have hst:Heap.dU ⟨nx,tr⟩ b (0+l.length*s) y.cells=some ⟨nx,Tr.set tr b (.cells (ai (l++[y])++rest.drop s) true es)⟩:=by
  simp only[Heap.dU,hg,hb,hf,Bool.and_self,cond_true];have:Heap.splice (ai l++rest) (0+l.length*s) y.cells=ai (l++[y])++rest.drop s:=by
   rw[Nat.zero_add,←hfl,zW _ _ _ (by omega),kE,hy];simp[ai]
  rw[this];rfl
 simp only[eV,l2,hsrc];show cond (bx y.cells) _ _=_;rw[hf,cond_true,b4,Bool.false_and,cond_false,b1,cond_true,hst];rfl
end Ads
end Go.Proofs.Ytepdklcpagielaa
namespace Go.Proofs.Ytepdklcpagielaa
open Go Ads
namespace Ir
def yx(i n:Int):Int:=i%n
theorem OE(i n:Int)(hn:0<n)(hn2:n<2^62):PC fs ms 22 [.int .i64 i,.int .i64 n] (.int .i64 (yx i n)):=by
 refine aX rfl rfl ?_;refine aC (af:=XB) false rfl (Nat.le_of_ble_eq_true rfl) ?_;generalize hQ:(fun(v:AV) (_:Heap)=>v=.int .i64 (yx i n))=Q;conv=>whnf
 refine⟨_,ya _ _ (by omega),?_⟩;conv=>whnf
 have h1:i.tmod n=if 0≤i∨n∣i then i%n else i%n-n:=by
  rw[Int.tmod_eq_emod];split<;>simp<;>omega
 have h2:=Int.emod_nonneg i (show n≠0 by omega);have h3:=Int.emod_lt_of_pos i hn;refine br (fun hc=>?_) (fun hc=>?_)<;>(try rw[hc])<;>(conv=>whnf)
 ·subst hQ;simp only[decide_eq_true_eq] at hc;split at h1
  ·omega
  ·rw[h1,IntWalk.i64_in _ (by omega)];simp only[yx]
   congr 1
   omega
 ·subst hQ;simp only[decide_eq_false_iff_not] at hc;split at h1
  ·rw[h1];rfl
  ·omega
end Ir
end Go.Proofs.Ytepdklcpagielaa
namespace Go.Proofs.Ytepdklcpagielaa
open Go Ads
namespace Ads
abbrev H8(a0 a1 a2 a3 a4 a5 a6 a7:Option dm):Heap:=⟨8,.node (.node (.node (.node .nil a7 .nil) a3 .nil) a1 (.node .nil a5 .nil)) a0 (.node (.node .nil a4 .nil) a2 (.node .nil a6 .nil))⟩
def HJ(a0 a1 a2 a3 a4 a5 a6 a7:Option dm):Nat→Option dm
 |0=>a0|1=>a1|2=>a2|3=>a3|4=>a4|5=>a5|6=>a6|7=>a7|_=>none
theorem get_nil(b:Nat):Tr.get (.nil:Tr dm) b=none:=by simp[Tr.get]
theorem vb{a:Option dm}{b:Nat}(h:0<b):Tr.get (.node .nil a .nil:Tr dm) b=none:=by
 rcases Nat.mod_two_eq_zero_or_one b with h2|h2
 ·rw[Tr.gu _ _ h2 (by omega)];exact get_nil _
 ·rw[Tr.je _ _ h2];exact get_nil _
theorem K4{a a':Option dm}{b:Nat}(h:1<b):Tr.get (.node (.node .nil a' .nil) a .nil:Tr dm) b=none:=by
 rcases Nat.mod_two_eq_zero_or_one b with h2|h2
 ·rw[Tr.gu _ _ h2 (by omega)];exact get_nil _
 ·rw[Tr.je _ _ h2];exact vb (b:=b/2) (by omega)
theorem Vi{a0 a1 a2 a3 a4 a5 a6 a7:Option dm}(b:Nat):(H8 a0 a1 a2 a3 a4 a5 a6 a7).get b=HJ a0 a1 a2 a3 a4 a5 a6 a7 b:=by
 by_cases h8:b<8
 ·match b,h8 with
  |0,_=>rfl
  |1,_=>rfl
  |2,_=>rfl
  |3,_=>rfl
  |4,_=>rfl
  |5,_=>rfl
  |6,_=>rfl
  |7,_=>rfl
 ·have hp:HJ a0 a1 a2 a3 a4 a5 a6 a7 b=none:=by
   match b,h8 with
   |b+8,_=>rfl
  rw[hp];show Tr.get (.node (.node (.node (.node .nil a7 .nil) a3 .nil) a1 (.node .nil a5 .nil)) a0 (.node (.node .nil a4 .nil) a2 (.node .nil a6 .nil))) b=none;rcases Nat.mod_two_eq_zero_or_one b with h2|h2
  ·rw[Tr.gu _ _ h2 (by omega)];rcases Nat.mod_two_eq_zero_or_one (b/2-1) with h3|h3
   ·rw[Tr.gu _ _ h3 (by omega)];exact vb (b:=(b/2-1)/2-1) (by omega)
   ·rw[Tr.je _ _ h3];exact vb (b:=(b/2-1)/2) (by omega)
  ·rw[Tr.je _ _ h2];rcases Nat.mod_two_eq_zero_or_one (b/2) with h3|h3
   ·rw[Tr.gu _ _ h3 (by omega)];exact vb (b:=b/2/2-1) (by omega)
   ·rw[Tr.je _ _ h3];exact K4 (b:=b/2/2) (by omega)
theorem gc8{B:Nat}{e:Env}{h:Heap}{d:Nat}{l:List (Nat×AV)}{a0 a1 a2 a3 a4 a5 a6 a7:Option dm}(p:Nat→Nat)(hl:jH p 8 e l)
  (hb:∀b x,HJ a0 a1 a2 a3 a4 a5 a6 a7 b=some x→∃y,h.get (p b)=some y∧mC p 8 x y)
  (hi:∀b,b<8→∀c,c<8→p b=p c→b=c)(wC:∀b,b<B→p b=b)(hn:B≤8):GC B p e h (ek d l) (H8 a0 a1 a2 a3 a4 a5 a6 a7):=by
 have hlt:∀b,(H8 a0 a1 a2 a3 a4 a5 a6 a7).get b≠none→b<8:=by
  intro b hb;rw[Vi] at hb
  match b,hb with
  |0,_=>omega
  |1,_=>omega
  |2,_=>omega
  |3,_=>omega
  |4,_=>omega
  |5,_=>omega
  |6,_=>omega
  |7,_=>omega
  |b+8,hb=>exact absurd rfl hb
 refine⟨?_,?_,?_,wC,hn⟩
 ·intro i v hv;exact pM hl (sg d _ i v hv)
 ·intro b x hx;have Vv:b<8:=hlt b (by rw[hx];exact fun h=>by cases h);rw[Vi] at hx;exact⟨Vv,hb b x hx⟩
 ·intro b c hb hc he;exact hi b (hlt b hb) c (hlt c hc) he
theorem adQ{P:Nat→dm→Prop}{a0 a1 a2 a3 a4 a5 a6 a7:Option dm}(h0:∀x,a0=some x→P 0 x)(h1:∀x,a1=some x→P 1 x)(h2:∀x,a2=some x→P 2 x)(h3:∀x,a3=some x→P 3 x)(h4:∀x,a4=some x→P 4 x)(h5:∀x,a5=some x→P 5 x)
  (h6:∀x,a6=some x→P 6 x)(h7:∀x,a7=some x→P 7 x):∀b x,HJ a0 a1 a2 a3 a4 a5 a6 a7 b=some x→P b x
 |0,x,h=>h0 x h
 |1,x,h=>h1 x h
 |2,x,h=>h2 x h
 |3,x,h=>h3 x h
 |4,x,h=>h4 x h
 |5,x,h=>h5 x h
 |6,x,h=>h6 x h
 |7,x,h=>h7 x h
 |b+8,x,h=>by cases h
theorem Xf{O:Option dm}{p:Nat→Nat}{n:Nat}{h:Heap}{b:Nat}(hg:h.get b=O)(hr:∀x,O=some x→mC p n x x):∀x,O=some x→∃y,h.get b=some y∧mC p n x y:=fun x hx=>⟨x,hg.trans hx,hr x hx⟩
theorem acA{p:Nat→Nat}{n es:Nat}{wr:Bool}{a b a' b':AV}(h1:tZ p n a a')(h2:tZ p n b b'):mC p n (.cells [a,b] wr es) (.cells [a',b'] wr es):=by
 refine .cells rfl fun i x y hx hy=>?_
 match i,hx,hy with
 |0,hx,hy=>cases hx;cases hy;exact h1
 |1,hx,hy=>cases hx;cases hy;exact h2
end Ads
end Go.Proofs.Ytepdklcpagielaa
