/-
  Rows in blocks: filled from the front, grown by append. What values of struct types are. Rows that grow while another one grows: three blocks, of which some may be missing. Rows that lie at a block's start, with room behind them. Small helpers of the document's answers: EqInts, CopyInts, Bring. Heaps of eight blocks, of which some may be missing. Heaps that are not known but for some blocks: how operations read and write them. Rank: ids with their keys, as cells; ahead, lay. Stops inside regions, loops and tests.
-/
import Derived.Test.YtnlcabhfkpafmaaGreatVsLoop
import Derived.KernelRfl
import Derived.Test.YtnlcabhfkpafmaaGreatVsLaw
import Derived.Test.YtnlcabhfkpafmaaGreatVsTop
import Derived.Test.YtnlcabhfkpafmaaGreatIrLink
set_option maxRecDepth 100000
set_option linter.unusedSimpArgs false
set_option linter.unusedVariables false
namespace Go.Proofs.YtnlcabhfkpafmaaGreat
open Go Ads
namespace Ads
theorem EN{k:IntKind}(a b:Int)(hb:b≠0):pV (.bin .rem) [.int k a,.int k b]=some (.int k (a.tmod b)):=by
 simp[pV,ZH,l2,Hv,CB,mq,qU,hb]
theorem N5{k:IntKind}(a b:Int)(hb:b≠0):pV (.bin .quo) [.int k a,.int k b]=some (.int k (k.wrap (a.tdiv b))):=by
 simp[pV,ZH,l2,Hv,CB,mq,qU,hb]
theorem kq{n:Nat}(h:n<9223372036854775808):IntKind.i64.wrap (n:Int)=n:=IntWalk.i64_in _ (by omega)
theorem vL{P:Nat→Prop}{g:Heap}{b n s:Nat}{l vs:List AV}{wr:Bool}{es:Nat}(hb:P b)(hg:g.get b=some (.cells vs wr es))(hv:vs=aa l)(hs:aO s l=true)(hn:n=l.length)(kY:cD l=true):
  ny P g (.sl b 0 n n true) (.fz 0 l):=
 .row (s:=s) hb hg hv hs hn (Nat.le_refl _) (by omega) (fun h=>by omega) (fun h=>by omega) kY
theorem cC{p:Nat→Nat}{n:Nat}{e:Env}{i b o len cap:Nat}{op:Bool}{l:List (Nat×AV)}(h:Tr.get e i=some (.sl (p b) o len cap op))(hb:b<n)(hl:kL p n e l):kL p n e ((i,.sl b o len cap op)::l):=⟨⟨_,h,.sl hb⟩,hl⟩
section
variable {fs:Nat→Option an} {ms:Nat→String→Option Nat} {B:Nat} {rd:Bool}
theorem bY{f:Nat}{af:an}{args:List AV}{h:Heap}{Q:AV→Heap→Prop}(hf:fs f=some af)(hlen:args.length≤af.ntmps)
  (hw:Aj af.ntmps args fun e=>VC fs ms h.next false af.body e h (FF af.results Q)):VD fs ms f args h Q:=by
 rw[yX] at hw;exact E9 hf hlen hw
theorem aF{a b:AC}{e:Env}{h:Heap}{Q:AX→Env→Heap→Prop}(z:Bool)
  (hw:DG fs ms B rd z a e h fun x e1 h1=>match x with|.normal=>VC fs ms B rd b e1 h1 Q|x=>Q x e1 h1):VC fs ms B rd (.seq a b) e h Q:=by
 obtain⟨x,e1,h1,hb,hk⟩:=aq hw;cases x with
 |normal=>
  obtain⟨x2,e2,h2,kO,hk2⟩:=hk;exact⟨_,_,_,.Dy hb kO,hk2⟩
 |exit i=>exact⟨_,_,_,.tU hb rfl,hk⟩
 |ret=>exact⟨_,_,_,.tU hb rfl,hk⟩
 |panic v=>exact⟨_,_,_,.tU hb rfl,hk⟩
end
theorem vN{B:Nat}{e:Env}{h H:Heap}{d n:Nat}{l:List (Nat×AV)}{m:List (Nat×dD)}(hH:H=hk n m)(p:Nat→Nat)(hl:kL p n e l)(hm:xP p n h m)
  (hp:∀b c,b∈m.map (·.1)→c∈m.map (·.1)→p b=p c→b=c)(CY:∀b,b<B→p b=b)(hn:B≤n):GC B p e h (ek d l) H:=by
 subst hH;exact TD p hl hm hp CY hn
theorem Kt{fs:Nat→Option an}{ms:Nat→String→Option Nat}{B:Nat}{rd:Bool}{c:AC}{e:Env}{h H:Heap}{Q:AX→Env→Heap→Prop}{d n:Nat}{l:List (Nat×AV)}{m:List (Nat×dD)}(hH:H=hk n m)(p:Nat→Nat)(hl:kL p n e l)(hm:xP p n h m)
  (hp:∀b c,b∈m.map (·.1)→c∈m.map (·.1)→p b=p c→b=c)(CY:∀b,b<B→p b=b)(hn:B≤n)(hw:VC fs ms B rd c (ek d l) H Q):VC fs ms B rd c e h Q:=by
 subst hH;exact PI d l n m p hl hm hp CY hn hw
theorem C1(x:dD):(⟨1,.node .nil (some x) .nil⟩:Heap)=hk 1 [(0,x)]:=rfl
theorem QT(x y:dD):(⟨2,.node (.node .nil (some y) .nil) (some x) .nil⟩:Heap)=hk 2 [(0,x),(1,y)]:=by kernel_rfl
theorem Bm(x y z:dD):(⟨3,.node (.node .nil (some y) .nil) (some x) (.node .nil (some z) .nil)⟩:Heap)=hk 3 [(0,x),(1,y),(2,z)]:=by kernel_rfl
theorem Ku{fs:Nat→Option an}{ms:Nat→String→Option Nat}{B:Nat}{g:bH}{ps:List Nat}{a b:AC}{e:Env}{h:Heap}{f:Nat}{first aM:List AV}{Q:AX→Env→Heap→Prop}(hao:dJ e [g]=true)(Bf:Env.ev e g=.func (.func f) first aM)
  (hw:VD fs ms f (first++(.yield h.next::aM)) (h.new (.loop 0 none e ps a b)) fun _ h2=>∃x st,h2.get h.next=some (.loop st (dO x) e ps a b)∧st≠1∧(∀v,x≠.panic v)∧Q x e (h2.set h.next (.loop 3 (dO x) e ps a b))):
  VC fs ms B false (.rangeFunc g ps a b) e h Q:=by
 obtain⟨v,h2,hb,x,st,h3,h4,h5,h6⟩:=hw;exact⟨x,e,_,.rangeFunc hao Bf (hb B) h3 h4 h5,h6⟩
theorem Kv{fs:Nat→Option an}{ms:Nat→String→Option Nat}{L:Nat}{args:List AV}{h:Heap}{fZ:Option AX}{e:Env}{ps:List Nat}{a b:AC}{k:AV→Heap→Prop}(hg:h.get L=some (.loop 0 fZ e ps a b))(hlen:args.length=ps.length)
  (hw:VC fs ms h.next true a (gP ps args e) h fun x e2 h2=>x=.normal∧∃cN,h2.get L=some (.loop 0 cN e ps a b)∧
   VC fs ms h.next true b e2 (h2.set L (.loop 1 cN e ps a b)) fun x e4 h4=>(∀v,x≠.panic v)∧(∃OU sM,h4.get L=some (.loop OU sM e ps a b))∧k (.bool x.cB) (h4.set L (.loop (bif x.cB then 0 else 2) (dO x) e ps a b))):
  ∃v h1,(∀B,VS fs ms B (.fD (.yield L) args h) (.val v h1))∧k v h1:=by
 obtain⟨x,e2,h2,hb,rfl,cN,h3,y,e4,h4,kO,h5,⟨OU,sM,h6⟩,h7⟩:=hw;exact⟨_,_,fun B=>.yield hg hlen hb h3 kO h5 h6,h7⟩
theorem yT{n d st:Nat}{fZ:Option AX}{l:List (Nat×AV)}{ps:List Nat}{a b:AC}(h:∀x,x∈l→uH id n x.2 x.2):xh id n (.loop st fZ (ek d l) ps a b) (.loop st fZ (ek d l) ps a b):=by
 refine .loop fun i v hv=>⟨v,hv,?_⟩;have h1:=tW d _ i v hv;have:∀{l:List (Nat×AV)},(∀x,x∈l→uH id n x.2 x.2)→kn l (fun _=>none) i=some v→uH id n v v:=by
  intro l;induction l with
  |nil=>intro _ h;simp[kn] at h
  |cons p l ih=>
   intro h h2;obtain⟨j,w⟩:=p;simp only[kn] at h2;cases hb:Nat.beq i j with
   |false=>rw[hb] at h2;exact ih (fun x hx=>h x (List.mem_cons_of_mem _ hx)) h2
   |true=>rw[hb] at h2;simp only[cond_true,Option.some.injEq] at h2;subst h2;exact h _ List.mem_cons_self
 exact this h h1
theorem qt{c:Bool}{A B:Prop}(hc:c=true)(h:c=true→A):Fs c A B:=br h (fun h2=>by rw[hc] at h2;exact absurd h2 (by decide))
theorem nE{c:Bool}{A B:Prop}(hc:c=false)(h:c=false→B):Fs c A B:=br (fun h2=>by rw[hc] at h2;exact absurd h2 (by decide)) h
theorem bZ{p:Nat→Nat}{n:Nat}{e:Env}{i b o:Nat}{l:List (Nat×AV)}(h:Tr.get e i=some (.ptr (p b) o))(hb:b<n)(hl:kL p n e l):kL p n e ((i,.ptr b o)::l):=⟨⟨_,h,.ptr hb⟩,hl⟩
theorem bC{p:Nat→Nat}{n:Nat}{e:Env}{i b:Nat}{l:List (Nat×AV)}(h:Tr.get e i=some (.yield (p b)))(hb:b<n)(hl:kL p n e l):kL p n e ((i,.yield b)::l):=⟨⟨_,h,.yield hb⟩,hl⟩
def H7:Nat→AV
 |0=>.aL
 |j+1=>.sl 0 0 (j+1) (j+1) true
def vP(L:List Int):Nat→Heap
 |0=>⟨0,.nil⟩
 |j+1=>⟨1,.node .nil (some (.cells (ints (L.take (j+1))) true 1)) .nil⟩
theorem nZ{p:Nat→Nat}{n:Nat}{M vs:List AV}{wr:Bool}{es:Nat}(h:vs=M)(hc:cD M=true):xh p n (.cells M wr es) (.cells vs wr es):=by
 subst h;refine .cells rfl fun i x y hx hy=>?_;rw[hx] at hy;cases hy
 exact .cl (fK hc hx)
theorem tS{p:Nat→Nat}{n:Nat}{M:List Int}{vs:List AV}{wr:Bool}{es:Nat}(h:vs=ints M):xh p n (.cells (ints M) wr es) (.cells vs wr es):=nZ h (bS M)
theorem Ht{nx:Nat}{tr:Tr dD}{b n:Nat}{vs:List AV}{x:AV}{m:Int}(hg:Heap.get ⟨nx,tr⟩ b=some (.cells vs true 1))(hv:vs.length=n)(hn:n≤1048576)(hs:dm 1 ⟨nx,tr⟩ x=some (1,[.int .i64 m])):
  eV (.append 1 8) [.sl b 0 n n true,x] ⟨nx,tr⟩=some (.sl nx 0 (n+1) (n+1) true,⟨nx+1,Tr.set (Heap.del ⟨nx,tr⟩ b).m nx (.cells (vs++[.int .i64 m]) true 1)⟩):=by
 subst hv;have hl:Heap.aZ ⟨nx,tr⟩ b 0 (vs.length*1)=some vs:=by
  rw[bR hg (by simp)];simp
 have b1:Nat.ble (vs.length+1) vs.length=false:=by
  cases hb:Nat.ble (vs.length+1) vs.length with
  |false=>rfl
  |true=>have:=Nat.le_of_ble_eq_true hb;omega
 have b2:Nat.ble ((vs.length+1)*8) 140737488355328=true:=Nat.ble_eq_true_of_le (by omega);have b3:Nat.ble (vs.length+1) 9223372036854775807=true:=Nat.ble_eq_true_of_le (by omega);have b4:Nat.beq 1 0=false:=rfl;have b5:Nat.beq vs.length (0+vs.length*1)=true:=by rw[Nat.zero_add,Nat.mul_one];exact Nat.beq_refl _
 have b6:Nat.beq vs.length vs.length=true:=Nat.beq_refl _;have b7:Nat.beq 1 1=true:=rfl;simp only[eV,l2,hs];show cond (bA [AV.int .i64 m]) _ _=_;rw[show bA [AV.int .i64 m]=true from rfl,cond_true,b4,Bool.false_and,cond_false,b1,cond_false,b2,b3,Bool.and_self,cond_true,hg,hl];simp only[b5,b6,b7,Bool.and_self,cond_true];rfl
theorem Hr{nx:Nat}{tr:Tr dD}{x:AV}{m:Int}(hs:dm 1 ⟨nx,tr⟩ x=some (1,[.int .i64 m])):
  eV (.append 1 8) [.aL,x] ⟨nx,tr⟩=some (.sl nx 0 1 1 true,⟨nx+1,Tr.set tr nx (.cells [.int .i64 m] true 1)⟩):=by
 simp only[eV,l2,hs];rfl
theorem mV{s bytes nx:Nat}{tr:Tr dD}{x:AV}{cs:List AV}(hb:bytes≤1048576)(hs:dm s ⟨nx,tr⟩ x=some (1,cs))(hf:bA cs=true):
  eV (.append s bytes) [.aL,x] ⟨nx,tr⟩=some (.sl nx 0 1 1 true,⟨nx+1,Tr.set tr nx (.cells cs true s)⟩):=by
 have b2:Nat.ble (1*bytes) 140737488355328=true:=Nat.ble_eq_true_of_le (by omega);simp only[eV,l2,hs];show cond (bA cs) _ _=_;rw[hf,cond_true];show cond (Nat.ble (1*bytes) 140737488355328&&true) _ _=_;rw[b2];rfl
theorem DJ:∀n:Nat,dU [.int .i64 0] n=ints (List.replicate n 0):=by
 intro n;induction n with
 |zero=>rfl
 |succ n ih=>
  show _=AV.int .i64 0::ints (List.replicate n 0);rw[←ih];rfl
theorem NM{n:Nat}(hn:n≤17592186044416):aI (.jT [.int .i64 0] 1 8) [.int .i64 (n:Nat),.int .i64 (n:Nat)]=some (.cells (ints (List.replicate n 0)) true 0,fun b=>.sl b 0 n n false):=by
 have b1:Nat.ble n n=true:=Nat.ble_eq_true_of_le (Nat.le_refl _);have b2:Nat.ble (8*n) 140737488355328=true:=Nat.ble_eq_true_of_le (by omega);have b3:Nat.ble n 9223372036854775807=true:=Nat.ble_eq_true_of_le (by omega);show cond (Nat.ble n n&&Nat.ble (8*n) 140737488355328&&Nat.ble n 9223372036854775807) (some (dD.cells (dU [AV.int .i64 0] n) true 0,fun b=>AV.sl b 0 n n false)) none=_;rw[b1,b2,b3,DJ];rfl
theorem nq{α:Type}:∀(l:List α) (o:Nat) (x:α),o<l.length→Heap.splice l o [x]=l.set o x
 |[],o,x,h=>by simp at h
 |y::l,0,x,h=>by
  show x::Heap.splice l 0 []=_;have:Heap.splice l 0 []=l:=by cases l<;>rfl
  rw[this];rfl
 |y::l,o+1,x,h=>by
  show y::Heap.splice l o [x]=_;rw[nq l o x (by simpa using h)];rfl
end Ads
end Go.Proofs.YtnlcabhfkpafmaaGreat
namespace Go.Proofs.YtnlcabhfkpafmaaGreat
open Go
namespace Ads
section
variable {P:Program}
def A5(t:TypeId):Bool:=match P.underlying t with
 |some (.int _)=>true
 |some .bool=>true
 |some .string=>true
 |some (.slice _)=>true
 |_=>false
def D4(fs:Array Field):Nat→Bool
 |0=>true
 |n+1=>(match fs[n]? with|some f=>Nat.beq f.offset n&&A5 (P:=P) f.type&&Nat.beq (P.cellsOf f.type) 1|none=>false)&&D4 fs n
theorem ym{fs:Array Field}:∀{n:Nat},D4 (P:=P) fs n=true→∀i,i<n→∃f,fs[i]?=some f∧f.offset=i∧A5 (P:=P) f.type=true∧P.cellsOf f.type=1
 |0,_,i,hi=>by omega
 |n+1,h,i,hi=>by
  simp only[D4,Bool.and_eq_true] at h;by_cases e:i=n
  ·subst e;have h1:=h.1;split at h1
   ·rename_i f hf;simp only[Bool.and_eq_true] at h1;exact⟨f,hf,Nat.eq_of_beq_eq_true h1.1.1,h1.1.2,Nat.eq_of_beq_eq_true h1.2⟩
   ·simp at h1
  ·exact ym h.2 i (by omega)
theorem CL{t:TypeId}{x:AV}(h:dY P t x)(hf:A5 (P:=P) t=true):x.cells=[x]:=by
 cases h with
 |struct h1=>simp[A5,h1] at hf
 |array h1=>simp[A5,h1] at hf
 |_=>rfl
theorem Ap{t:TypeId}{fs:Array Field}{x:AV}{n:Nat}(h:dY P t x)(hu:P.underlying t=some (.struct fs))(hc:P.cellsOf t=n)(hs:fs.size=n)(hf:D4 (P:=P) fs n=true):
  ∃cs:List AV,x=.agg cs∧cs.length=n∧∀(i:Nat) (f:Field) (y:AV),fs[i]?=some f→cs[i]?=some y→dY P f.type y:=by
 obtain⟨cs,ys,rfl,h1,h2,h3⟩:=GH h hu;refine⟨cs,rfl,by omega,fun i f y Wt hy=>?_⟩;have hi:i<n:=by have:=(List.getElem?_eq_some_iff.1 hy).1;omega
 obtain⟨g,g1,g2,g3,g4⟩:=ym hf i hi;rw[g1] at Wt;cases Wt
 have hz:ys[i]?=some (ys[i]'(by omega)):=List.getElem?_eq_getElem _;obtain⟨k1,k2⟩:=h3 i f _ g1 hz;rw[CL k1 g3,g2,g4] at k2;have:cs[i]?=some (ys[i]'(by omega)):=by
  have:=congrArg (fun l=>l[0]?) k2;simpa using this.symm
 rw[hy] at this;cases this
 exact k1
end
end Ads
end Go.Proofs.YtnlcabhfkpafmaaGreat
namespace Go.Proofs.YtnlcabhfkpafmaaGreat
open Go Ads
namespace Ads
section
variable {fs:Nat→Option an} {ms:Nat→String→Option Nat} {rd:Bool}
theorem bu{B:Nat}{a b:AC}{e:Env}{h:Heap}{Q:AX→Env→Heap→Prop}
  (hw:VC fs ms B rd a e h fun x e1 h1=>match x with|.normal=>VC fs ms B rd b e1 h1 Q|x=>Q x e1 h1):VC fs ms B rd (.seq a b) e h Q:=by
 obtain⟨x,e1,h1,hb,hk⟩:=hw;cases x with
 |normal=>
  obtain⟨x2,e2,h2,kO,hk2⟩:=hk;exact⟨_,_,_,.Dy hb kO,hk2⟩
 |exit i=>exact⟨_,_,_,.tU hb rfl,hk⟩
 |ret=>exact⟨_,_,_,.tU hb rfl,hk⟩
 |panic v=>exact⟨_,_,_,.tU hb rfl,hk⟩
theorem bx{B id:Nat}{c:AC}{e:Env}{h:Heap}{Q:AX→Env→Heap→Prop}
  (hw:VC fs ms B rd c e h fun x e1 h1=>match x with|.exit i=>(if i=id then Q .normal e1 h1 else Q (.exit i) e1 h1)|x=>Q x e1 h1):VC fs ms B rd (.block id c) e h Q:=by
 obtain⟨x,e1,h1,hb,hk⟩:=hw;cases x with
 |normal=>exact⟨_,_,_,.kz hb (by intro i hi;cases hi),hk⟩
 |exit i=>
  by_cases hi:i=id
  ·subst hi;simp only[if_true] at hk;exact⟨_,_,_,.tg hb,hk⟩
  ·simp only[hi,if_false] at hk;exact⟨_,_,_,.kz hb (by intro i2 hi2;cases hi2;exact hi),hk⟩
 |ret=>exact⟨_,_,_,.kz hb (by intro i hi;cases hi),hk⟩
 |panic v=>exact⟨_,_,_,.kz hb (by intro i hi;cases hi),hk⟩
end
abbrev H3(O X I:Option dD):Heap:=⟨3,.node (.node .nil X .nil) O (.node .nil I .nil)⟩
theorem jk:∀{l:List AV} {s:Nat},aO s l=true→(aa l).length=l.length*s
 |[],s,_=>by simp[aa]
 |x::l,s,h=>by
  simp only[aO,Bool.and_eq_true] at h;have:=Nat.eq_of_beq_eq_true h.1;show(x.cells++aa l).length=_;rw[List.length_append,jk h.2,List.length_cons,this,Nat.succ_mul];omega
theorem lK:∀(l m:List AV),aa (l++m)=aa l++aa m
 |[],m=>rfl
 |x::l,m=>by
  show x.cells++aa (l++m)=(x.cells++aa l)++aa m;rw[lK l m,List.append_assoc]
theorem vv{s bytes nx:Nat}{tr:Tr dD}{b:Nat}{x:AV}{cs:List AV}(hs:dm s ⟨nx,tr⟩ x=some (0,cs))(hf:bA cs=true):
  eV (.append s bytes) [.sl b 0 0 0 false,x] ⟨nx,tr⟩=some (.sl b 0 0 0 false,⟨nx,tr⟩):=by
 simp only[eV,l2,hs];show cond (bA cs) _ _=_;rw[hf,cond_true];rfl
theorem zf{s bytes nx n:Nat}{tr:Tr dD}{b:Nat}{x:AV}{cs:List AV}{wr:Bool}{es:Nat}(hg:Heap.get ⟨nx,tr⟩ b=some (.cells [] wr es))(hb:bytes≤1048576)(hn:n≤1048576)(hs:dm s ⟨nx,tr⟩ x=some (n+1,cs))(hf:bA cs=true):
  eV (.append s bytes) [.sl b 0 0 0 false,x] ⟨nx,tr⟩=some (.sl nx 0 (n+1) (n+1) true,⟨nx+1,Tr.set tr nx (.cells cs true s)⟩):=by
 have hl:Heap.aZ ⟨nx,tr⟩ b 0 (0*s)=some []:=by
  rw[bR hg (by simp)];simp
 have hm:(n+1)*bytes≤1048577*1048576:=Nat.mul_le_mul (by omega) hb;have b2:Nat.ble ((0+(n+1))*bytes) 140737488355328=true:=Nat.ble_eq_true_of_le (by rw[Nat.zero_add];omega);have b3:Nat.ble (0+(n+1)) 9223372036854775807=true:=Nat.ble_eq_true_of_le (by omega);have b4:Nat.beq (n+1) 0=false:=rfl;have b1:Nat.ble (0+(n+1)) 0=false:=by
  cases hb:Nat.ble (0+(n+1)) 0 with
  |false=>rfl
  |true=>have:=Nat.le_of_ble_eq_true hb;omega
 simp only[eV,l2,hs];show cond (bA cs) _ _=_;rw[hf,cond_true,b4,Bool.false_and,cond_false,b1,cond_false,b2,b3,Bool.and_self,cond_true,hg,hl];simp only[cond_false,Nat.zero_add];rfl
theorem Fl{s bytes nx:Nat}{tr:Tr dD}{x:AV}{cs:List AV}(hs:dm s ⟨nx,tr⟩ x=some (0,cs))(hf:bA cs=true):
  eV (.append s bytes) [.aL,x] ⟨nx,tr⟩=some (.aL,⟨nx,tr⟩):=by
 simp only[eV,l2,hs];show cond (bA cs) _ _=_;rw[hf,cond_true];rfl
theorem Fm{s bytes nx n:Nat}{tr:Tr dD}{x:AV}{cs:List AV}(hb:bytes≤1048576)(hn:n≤1048576)(hs:dm s ⟨nx,tr⟩ x=some (n+1,cs))(hf:bA cs=true):
  eV (.append s bytes) [.aL,x] ⟨nx,tr⟩=some (.sl nx 0 (n+1) (n+1) true,⟨nx+1,Tr.set tr nx (.cells cs true s)⟩):=by
 have hm:(n+1)*bytes≤1048577*1048576:=Nat.mul_le_mul (by omega) hb;have b2:Nat.ble ((n+1)*bytes) 140737488355328=true:=Nat.ble_eq_true_of_le (by omega);have b3:Nat.ble (n+1) 9223372036854775807=true:=Nat.ble_eq_true_of_le (by omega);have b4:Nat.beq (n+1) 0=false:=rfl;simp only[eV,l2,hs];show cond (bA cs) _ _=_;rw[hf,cond_true,b4,cond_false,b2,b3,Bool.and_self,cond_true];rfl
theorem rN{s k:Nat}{l:List AV}{h:Heap}(hs:aO s l=true):dm s h (.fz k l)=some (l.length,aa l):=by
 simp only[dm,hs,cond_true]
end Ads
end Go.Proofs.YtnlcabhfkpafmaaGreat
namespace Go.Proofs.YtnlcabhfkpafmaaGreat
open Go Ads
namespace Ads
theorem er{α:Type}:∀(l:List α) (o:Nat),Heap.splice l o []=l
 |[],0=>rfl
 |[],o+1=>rfl
 |x::l,0=>rfl
 |x::l,o+1=>by
  show x::Heap.splice l o []=_;rw[er l o]
theorem uC{α:Type}:∀(xs r:List α),xs.length≤r.length→Heap.splice r 0 xs=xs++r.drop xs.length
 |[],r,_=>by rw[er];simp
 |x::xs,[],h=>by simp at h
 |x::xs,y::r,h=>by
  show x::Heap.splice r 0 xs=_;rw[uC xs r (by simpa using h)];rfl
theorem rL{α:Type}:∀(a r xs:List α),xs.length≤r.length→Heap.splice (a++r) a.length xs=a++xs++r.drop xs.length
 |[],r,xs,h=>by simpa using uC xs r h
 |x::a,r,[],h=>by rw[er];simp
 |x::a,r,y::xs,h=>by
  show x::Heap.splice (a++r) a.length (y::xs)=_;rw[rL a r (y::xs) h];rfl
theorem pZ{P:Nat→Prop}{g:Heap}{b n cap s:Nat}{op:Bool}{l rest vs:List AV}{wr:Bool}{es:Nat}(hb:P b)(hg:g.get b=some (.cells vs wr es))(hv:vs=aa l++rest)(hs:aO s l=true)
  (hn:n=l.length)(hcap:n≤cap)(kY:cD l=true):ny P g (.sl b 0 n cap op) (.fz 0 l):=by
 subst hv;have hf:=jZ hs;refine .sl hb hg hs hn (by rw[List.length_append,hf.1];omega) hcap (by omega) (fun h=>by omega) (fun h=>by omega) ?_;intro i x j c y hx hc hy;rw[Nat.zero_add] at hy;have e1:=cU hs hx;have l1:=(List.getElem?_eq_some_iff.1 hc).1;have l0:=(List.getElem?_eq_some_iff.1 hx).1;have hlt:i*s+j<(aa l).length:=by
  rw[hf.1]
  calc i*s+j<i*s+s:=by omega
   _=(i+1)*s:=(Nat.succ_mul i s).symm
   _≤l.length*s:=Nat.mul_le_mul_right _ l0
 rw[List.getElem?_append_left hlt] at hy;rw[kW hs hx hc] at hy;cases hy
 exact .clean (fK (oN (fK kY hx)) hc)
theorem PZ{s bytes nx:Nat}{tr:Tr dD}{b m cap es:Nat}{op:Bool}{l rest vs:List AV}{x y:AV}(hg:Heap.get ⟨nx,tr⟩ b=some (.cells vs true es))(hv:vs=aa l++rest)(hs:aO s l=true)(hm:m=l.length)
  (hcap:m<cap)(hr:rest.length=(cap-m)*s)(hsrc:dm s ⟨nx,tr⟩ x=some (1,y.cells))(hy:y.cells.length=s)(hf:bA y.cells=true):
  eV (.append s bytes) [.sl b 0 m cap op,x] ⟨nx,tr⟩=some (.sl b 0 (m+1) cap op,⟨nx,Tr.set tr b (.cells (aa (l++[y])++rest.drop s) true es)⟩):=by
 subst hv hm;have b1:Nat.ble (l.length+1) cap=true:=Nat.ble_eq_true_of_le hcap;have b4:Nat.beq 1 0=false:=rfl;have hfl:=(jZ hs).1;have FV:s≤rest.length:=by
  rw[hr]
  calc s=1*s:=(Nat.one_mul s).symm
   _≤_:=Nat.mul_le_mul_right _ (by omega)
 have hb:Nat.ble (0+l.length*s+y.cells.length) (aa l++rest).length=true:=Nat.ble_eq_true_of_le (by rw[List.length_append,hfl,hy];omega);have hst:Heap.fy ⟨nx,tr⟩ b (0+l.length*s) y.cells=some ⟨nx,Tr.set tr b (.cells (aa (l++[y])++rest.drop s) true es)⟩:=by
  simp only[Heap.fy,hg,hb,hf,Bool.and_self,cond_true];have:Heap.splice (aa l++rest) (0+l.length*s) y.cells=aa (l++[y])++rest.drop s:=by
   rw[Nat.zero_add,←hfl,rL _ _ _ (by omega),lK,hy];simp[aa]
  rw[this];rfl
 simp only[eV,l2,hsrc];show cond (bA y.cells) _ _=_;rw[hf,cond_true,b4,Bool.false_and,cond_false,b1,cond_true,hst];rfl
end Ads
end Go.Proofs.YtnlcabhfkpafmaaGreat
namespace Go.Proofs.YtnlcabhfkpafmaaGreat
open Go Ads
namespace Ir
theorem HW(k k':Nat)(a b:List Int)(hl:a.length<2^62)(hl':b.length<2^62):PC fs ms 33 [.fz k (ints a),.fz k' (ints b)] (.bool (a==b)):=by
 refine cr (by simp[cD,AV.cl,bS]) rfl ?_;refine ak (af:=Vj) false rfl (Nat.le_of_ble_eq_true rfl) ?_;generalize hQ:(fun(u:AV) (_:Heap)=>u=.bool (a==b))=Q;conv=>whnf
 refine br (fun hc=>?_) (fun hc=>?_)<;>(try rw[hc])<;>(conv=>whnf)
 ·subst hQ;simp[bI] at hc;have:(a==b)=false:=by
   rw[beq_eq_false_iff_ne];rintro rfl;simp at hc
  rw[this]
 ·have hab:a.length=b.length:=by simp[bI] at hc;omega
  refine gX 5 [(5,.int .i64 (0:Nat)),(0,.fz k (ints a)),(1,.fz k' (ints b))] (by repeat' (first|exact trivial|refine cC rfl (by omega) ?_|refine bZ rfl (by omega) ?_|refine bC rfl (by omega) ?_|refine aV rfl (by first|rfl|simp[cD,AV.cl,bS]) ?_|refine aV (aK (by omega)) rfl ?_)) ?_;refine fM 5 a.length (fun j=>a.take j=b.take j) (fun j=>[(5,.int .i64 (j:Nat)),(0,.fz k (ints a)),(1,.fz k' (ints b))]) ?_ ?_ rfl
  ·intro j hj hi;conv=>whnf
   refine br (fun hc=>?_) (fun hc=>?_)<;>(try rw[hc])<;>(conv=>whnf)
   ·refine⟨_,sy hj,?_⟩;conv=>whnf
    refine⟨_,sy (hab▸hj),?_⟩;conv=>whnf
    refine br (fun hc=>?_) (fun hc=>?_)<;>(try rw[hc])<;>(conv=>whnf)
    ·subst hQ;have:(a==b)=false:=by
      rw[beq_eq_false_iff_ne];rintro rfl;simp at hc
     rw[this]
    ·have he:a[j]=b[j]'(hab▸hj):=by simpa using hc
     refine⟨?_,aV (aK (by omega)) rfl (by repeat' (first|exact trivial|refine cC rfl (by omega) ?_|refine bZ rfl (by omega) ?_|refine bC rfl (by omega) ?_|refine aV rfl (by first|rfl|simp[cD,AV.cl,bS]) ?_|refine aV (aK (by omega)) rfl ?_))⟩;rw[List.take_succ_eq_append_getElem hj,List.take_succ_eq_append_getElem (hab▸hj),hi,he]
   ·simp[bI] at hc;omega
  ·intro hi;conv=>whnf
   refine br (fun hc=>?_) (fun hc=>?_)<;>(try rw[hc])<;>(conv=>whnf)
   ·simp[bI] at hc
   ·subst hQ;have:a=b:=by rw[List.take_length] at hi;rw[hi,hab,List.take_length]
    subst this;simp
theorem ug(k k':Nat)(a:List Int)(hl:a.length<2^62):PC fs ms 33 [.fz k (ints a),.fz k' (ints a)] (.bool true):=by
 have:=HW k k' a a hl hl;simpa using this
def r6(i n:Int):Int:=i%n
theorem zi(i n:Int)(hn:0<n)(hn2:n<2^62):PC fs ms 12 [.int .i64 i,.int .i64 n] (.int .i64 (r6 i n)):=by
 refine cr rfl rfl ?_;refine ak (af:=UZ) false rfl (Nat.le_of_ble_eq_true rfl) ?_;generalize hQ:(fun(v:AV) (_:Heap)=>v=.int .i64 (r6 i n))=Q;conv=>whnf
 refine⟨_,EN _ _ (by omega),?_⟩;conv=>whnf
 have h1:i.tmod n=if 0≤i∨n∣i then i%n else i%n-n:=by
  rw[Int.tmod_eq_emod];split<;>simp<;>omega
 have h2:=Int.emod_nonneg i (show n≠0 by omega);have h3:=Int.emod_lt_of_pos i hn;refine br (fun hc=>?_) (fun hc=>?_)<;>(try rw[hc])<;>(conv=>whnf)
 ·subst hQ;simp only[decide_eq_true_eq] at hc;split at h1
  ·omega
  ·rw[h1,IntWalk.i64_in _ (by omega)];simp only[r6]
   congr 1
   omega
 ·subst hQ;simp only[decide_eq_false_iff_not] at hc;split at h1
  ·rw[h1];rfl
  ·omega
end Ir
end Go.Proofs.YtnlcabhfkpafmaaGreat
namespace Go.Proofs.YtnlcabhfkpafmaaGreat
open Go Ads
namespace Ads
end Ads
end Go.Proofs.YtnlcabhfkpafmaaGreat
namespace Go.Proofs.YtnlcabhfkpafmaaGreat
open Go Ads
namespace Ads
theorem bq{h:Heap}{b o n es:Nat}{vs:List AV}{v:AV}(hg:h.get b=some (.cells vs true es))(hn:v.cells.length=n)(hl:o+n≤vs.length)(hf:bA v.cells=true):
  eV (.store n) [.ptr b o,v] h=some (.undef,h.set b (.cells (Heap.splice vs o v.cells) true es)):=by
 have b1:Nat.beq v.cells.length n=true:=by rw[hn];exact Nat.beq_refl n
 have b2:Nat.ble (o+v.cells.length) vs.length=true:=Nat.ble_eq_true_of_le (by omega);show cond (Nat.beq v.cells.length n) ((h.fy b o v.cells).map fun h=>(AV.undef,h)) none=_;rw[b1,cond_true];simp only[Heap.fy,hg,b2,hf,Bool.and_self,cond_true];rfl
theorem yy{h:Heap}{b c:Nat}{x:dD}:(h.set b x).get c=if c=b then some x else h.get c:=Tr.bT _ _ _ _
theorem ay{h:Heap}{b:Nat}{x:dD}:(h.set b x).get b=some x:=by rw[yy,if_pos rfl]
theorem aX{h:Heap}{b c:Nat}{x:dD}(hn:c≠b):(h.set b x).get c=h.get c:=by rw[yy,if_neg hn]
theorem aj{h:Heap}{x:dD}:(h.new x).get h.next=some x:=by rw[Heap.bX,if_pos rfl]
theorem aA{h:Heap}{c:Nat}{x:dD}(hn:c<h.next):(h.new x).get c=h.get c:=by rw[Heap.bX,if_neg (by omega)]
theorem sw{b o n j s:Nat}(h:j<n):pV (.kC s n) [.ptr b o,.int .i64 (j:Nat)]=some (.ptr b (o+j*s)):=by
 have b1:Nat.ble (j+1) n=true:=Nat.ble_eq_true_of_le h;simp only[pV,l2,tn];show cond (Nat.ble (j+1) n) (some (AV.ptr b (o+j*s))) none=_;rw[b1,cond_true]
theorem aJ{b n cap j s:Nat}{op:Bool}(h:j<n):pV (.az s) [.sl b 0 n cap op,.int .i64 (j:Nat)]=some (.ptr b (j*s)):=by
 have b1:Nat.ble (j+1) n=true:=Nat.ble_eq_true_of_le h;simp only[pV,l2,tn];show cond (Nat.ble (j+1) n) (some (AV.ptr b (0+j*s))) none=_;rw[b1,cond_true,Nat.zero_add]
structure Fr(h h':Heap)(bs:List Nat):Prop where
 next:h.next≤h'.next
 keep:∀b,b<h.next→b∉bs→h'.get b=h.get b
theorem Fr.refl(h:Heap)(bs:List Nat):Fr h h bs:=⟨Nat.le_refl _,fun _ _ _=>rfl⟩
theorem Fr.trans{h h1 h2:Heap}{bs:List Nat}(a:Fr h h1 bs)(b:Fr h1 h2 bs):Fr h h2 bs:=⟨Nat.le_trans a.next b.next,fun c hc hn=>(b.keep c (Nat.lt_of_lt_of_le hc a.next) hn).trans (a.keep c hc hn)⟩
theorem Fr.set{h h1:Heap}{bs:List Nat}{b:Nat}{x:dD}(a:Fr h h1 bs)(hb:b∈bs):Fr h (h1.set b x) bs:=⟨a.next,fun c hc hn=>by rw[aX (by intro e;subst e;exact hn hb)];exact a.keep c hc hn⟩
theorem Fr.new{h h1:Heap}{bs:List Nat}{x:dD}(a:Fr h h1 bs):Fr h (h1.new x) bs:=⟨Nat.le_succ_of_le a.next,fun c hc hn=>by rw[aA (Nat.lt_of_lt_of_le hc a.next)];exact a.keep c hc hn⟩
theorem Fr.ki{h h1:Heap}{bs:List Nat}{b:Nat}{x:dD}(a:Fr h h1 bs)(hb:h.next≤b):Fr h (h1.set b x) bs:=⟨a.next,fun c hc hn=>by rw[aX (by omega)];exact a.keep c hc hn⟩
end Ads
namespace Ir
abbrev Id:=Nat×Int
def ob(x:Id):AV:=.agg [.int .i64 (x.1:Nat),.int .i64 x.2]
def obs(L:List Id):List AV:=L.map ob
def oc(L:List Id):List AV:=aa (obs L)
theorem sS(L:List Id):aO 2 (obs L)=true:=jd (enc:=ob) (fun _=>rfl) L
theorem Ev(L:List Id):(obs L).length=L.length:=List.length_map ..
theorem nS(L:List Id):(oc L).length=L.length*2:=by rw[oc,jk (sS L),Ev]
theorem Py{L:List Id}{i:Nat}(h:i<L.length):(oc L)[i*2+0]?=some (.int .i64 (L[i].1:Nat)):=
 kW (sS L) (x:=ob L[i]) (by rw[obs,List.getElem?_map,List.getElem?_eq_getElem h];rfl) rfl
theorem Jj{L:List Id}{i:Nat}(h:i<L.length):(oc L)[i*2+1]?=some (.int .i64 L[i].2):=
 kW (sS L) (x:=ob L[i]) (by rw[obs,List.getElem?_map,List.getElem?_eq_getElem h];rfl) rfl
theorem ED{L:List Id}{i:Nat}(h:i<L.length)(rest:List AV):((oc L++rest).drop (i*2)).take 2=[.int .i64 (L[i].1:Nat),.int .i64 L[i].2]:=by
 have hl:=nS L;refine List.ext_getElem? fun k=>?_;rw[List.getElem?_take]
 match k with
 |0=>rw[if_pos (by omega),List.getElem?_drop,List.getElem?_append_left (by omega),Py h];rfl
 |1=>rw[if_pos (by omega),List.getElem?_drop,List.getElem?_append_left (by omega),Jj h];rfl
 |k+2=>rw[if_neg (by omega)];rfl
theorem Di:∀(L:List Id) (i:Nat) (_:i<L.length) (x:Id) (rest:List AV),Heap.splice (oc L++rest) (i*2) [.int .i64 (x.1:Nat),.int .i64 x.2]=oc (L.set i x)++rest
 |y::L,0,_,x,rest=>by
  show AV.int .i64 (x.1:Nat)::AV.int .i64 x.2::Heap.splice (oc L++rest) 0 []=AV.int .i64 (x.1:Nat)::AV.int .i64 x.2::(oc L++rest);rw[er]
 |y::L,i+1,h,x,rest=>by
  have ih:=Di L i (by simpa using h) x rest;show Heap.splice (AV.int .i64 (y.1:Nat)::AV.int .i64 y.2::(oc L++rest)) ((i+1)*2) _=AV.int .i64 (y.1:Nat)::AV.int .i64 y.2::(oc (L.set i x)++rest);rw[show(i+1)*2=i*2+1+1 by omega,←ih];rfl
def EF(P:Nat→Nat):List AV:=(List.range 64).map fun i=>.int .i64 ((P i:Nat):Int)
def iz(P:Nat→Nat)(i v:Nat):Nat→Nat:=fun j=>if j=i then v else P j
theorem nW(P:Nat→Nat):(EF P).length=64:=by simp[EF]
theorem vi{P:Nat→Nat}{i:Nat}(h:i<64):(EF P)[i]?=some (.int .i64 ((P i:Nat):Int)):=by
 simp[EF,List.getElem?_map,List.getElem?_range h]
theorem EG{P:Nat→Nat}{i:Nat}(h:i<64)(v:Nat)(a:AV):Heap.splice (a::EF P) (1+i*1) [.int .i64 ((v:Nat):Int)]=a::EF (iz P i v):=by
 rw[nq _ _ _ (by rw[List.length_cons,nW];omega),show 1+i*1=i+1 by omega,List.set_cons_succ]
 congr 1
 refine List.ext_getElem? fun k=>?_;rw[List.getElem?_set];by_cases hk:k<64
 ·rw[vi hk,vi hk,nW,if_pos h,iz];by_cases hki:i=k
  ·subst hki;simp
  ·rw[if_neg hki,if_neg (Ne.symm hki)]
 ·rw[List.getElem?_eq_none (by rw[nW];omega),List.getElem?_eq_none (by rw[nW];omega),nW,if_pos h];split
  ·omega
  ·rfl
structure nA(h:Heap)(p r cap:Nat)(op:Bool)(L:List Id)(P:Nat→Nat)(rest:List AV):Prop where
 hp:h.get p=some (.cells (.sl r 0 L.length cap op::EF P) true 0)
 hr:h.get r=some (.cells (oc L++rest) true 2)
 ne:p≠r
 lp:p<h.next
 lr:r<h.next
def ah(a b:Id):Bool:=decide (a.2<b.2)||(decide (a.2=b.2)&&decide (a.1<b.1))
theorem zc(a b:Id):PC fs ms 185 [ob a,ob b] (.bool (ah a b)):=by
 refine cr rfl rfl ?_;refine ak (af:=Mh) false rfl (Nat.le_of_ble_eq_true rfl) ?_;generalize hQ:(fun(u:AV) (_:Heap)=>u=.bool (ah a b))=Q;obtain⟨a1,a2⟩:=a;obtain⟨b1,b2⟩:=b;conv=>whnf
 refine br (fun hc=>?_) (fun hc=>?_)<;>(try rw[hc])<;>(conv=>whnf)
 ·subst hQ;have:a2<b2:=by simpa using hc
  simp[ah,this]
 ·have h1:¬a2<b2:=by simpa using hc
  refine br (fun hc=>?_) (fun hc=>?_)<;>(try rw[hc])<;>(conv=>whnf)
  ·have h2:a2=b2:=by simpa using hc
   subst hQ;subst h2;simp[ah]
  ·have h2:¬a2=b2:=by simpa using hc
   subst hQ;simp[ah,h1,h2]
theorem Bz{h:Heap}{p r cap:Nat}{op:Bool}{L:List Id}{P:Nat→Nat}{rest:List AV}{i:Nat}{x:Id}(hh:nA h p r cap op L P rest)(hi:i<L.length)(hx:x.1<64)(hl:L.length<2^62){Q:AV→Heap→Prop}
  (hQ:∀h',nA h' p r cap op (L.set i x) (iz P x.1 (i+1)) rest→Fr h h' [p,r]→Q (.cq []) h'):VD fs ms 181 [.ptr p 0,.int .i64 (i:Nat),ob x] h Q:=by
 refine ak (af:=Me) true rfl (Nat.le_of_ble_eq_true rfl) ?_;obtain⟨x1,x2⟩:=x;obtain⟨hp,hr,ne,lp,lr⟩:=hh;conv=>whnf
 refine⟨_,aT (by rw[aA lp];exact hp) rfl,?_⟩;conv=>whnf
 refine⟨_,u0 aj (Nat.le_refl _),?_⟩;conv=>whnf
 refine⟨_,aJ hi,?_⟩;conv=>whnf
 have hlen:=nS L;refine⟨_,_,bq (by rw[aA lr];exact hr) rfl (by rw[List.length_append];omega) rfl,?_⟩;conv=>whnf
 refine⟨_,aT (by rw[aX (by omega)];exact aj) rfl,?_⟩;conv=>whnf
 rw[nP (by omega)];refine⟨_,sw (o:=1) hx,?_⟩;conv=>whnf
 have hlp:=nW P;refine⟨_,_,bq (by rw[aX ne,aA lp];exact hp) rfl (by rw[List.length_cons];show 1+x1*1+1≤_;simp only at hx;omega) rfl,?_⟩;conv=>whnf
 refine hQ _ ⟨?_,?_,ne,?_,?_⟩ ?_
 ·rw[ay];show some (dD.cells (Heap.splice _ (1+x1*1) [.int .i64 ((i+1:Nat):Int)]) true 0)=_;rw[EG hx,List.length_set]
 ·rw[aX (Ne.symm ne),ay];show some (dD.cells (Heap.splice _ (i*2) [.int .i64 ((x1:Nat):Int),.int .i64 x2]) true 2)=_;have:=Di L i hi (x1,x2) rest;rw[this]
 ·exact Nat.lt_succ_of_lt lp
 ·exact Nat.lt_succ_of_lt lr
 ·exact(((Fr.refl _ _).new).set (by simp)).set (by simp)
end Ir
end Go.Proofs.YtnlcabhfkpafmaaGreat
namespace Go.Proofs.YtnlcabhfkpafmaaGreat
open Go Ads
namespace Ads
theorem cS{fs:Nat→Option an}{ms:Nat→String→Option Nat}{B:Nat}{rd:Bool}{c:AC}{e:Env}{h:Heap}{Q:AX→Env→Heap→Prop}
  (hw:VC fs ms B rd c e h fun x e1 h1=>match x with|.normal=>VC fs ms B rd (.loop c) e1 h1 Q|x=>Q x e1 h1):VC fs ms B rd (.loop c) e h Q:=by
 obtain⟨x,e1,h1,hb,hk⟩:=hw;cases x with
 |normal=>
  obtain⟨x2,e2,h2,kO,hk2⟩:=hk;exact⟨_,_,_,.uv hb kO,hk2⟩
 |exit i=>exact⟨_,_,_,.iB hb rfl,hk⟩
 |ret=>exact⟨_,_,_,.iB hb rfl,hk⟩
 |panic v=>exact⟨_,_,_,.iB hb rfl,hk⟩
theorem bW{o:Cp}{args:List AV}{h h':Heap}{v:AV}{k:AV→Heap→Prop}(hs:eV o args h=some (v,h'))(hq:∀h1,h1=h'→k v h1):∃v h1,eV o args h=some (v,h1)∧k v h1:=⟨v,h',hs,hq h' rfl⟩
section
variable {fs:Nat→Option an} {ms:Nat→String→Option Nat} {B:Nat} {rd:Bool}
theorem VO.mono{l:List bE}{e:Env}{h:Heap}{K K':Env→Heap→Prop}(hc:VO fs ms B rd l e h K)(hq:∀e' h',K e' h'→K' e' h'):VO fs ms B rd l e h K':=by
 obtain⟨tr,e',h',hb,hk⟩:=hc;exact⟨tr,e',h',hb,hq e' h' hk⟩
theorem gW{c:bH}{a b:AC}{e:Env}{h:Heap}{Q:AX→Env→Heap→Prop}(hw:SG e c fun v=>match v with|.bool t=>Fs t (VC fs ms B rd a e h Q) (VC fs ms B rd b e h Q)|_=>False):VC fs ms B rd (.cond c a b) e h Q:=by
 obtain⟨ha,hw⟩:=tA hw;split at hw
 ·rename_i t ht;rcases iJ hw with⟨rfl,h2⟩|⟨rfl,h2⟩
  ·obtain⟨x,e1,h1,hb,hk⟩:=h2;exact⟨_,_,_,.cond ha ht hb,hk⟩
  ·obtain⟨x,e1,h1,hb,hk⟩:=h2;exact⟨_,_,_,.cond ha ht hb,hk⟩
 ·exact hw.elim
end
end Ads
end Go.Proofs.YtnlcabhfkpafmaaGreat
