/-
  The pure operations once more, one small function each: for the kernel, that copies what it opens.
  An evaluator of big steps for Lean's kernel: continuations, data worked out before it is handed on. It is sound.
  The evaluator: loops' records are kept; comparing; the evaluator itself, and that it is sound.
  The evaluator itself, and that it is sound.
  The evaluator in small pieces: for the kernel, that copies what it opens.
  Tables of compiled functions; what a closed run comes to in the model.
  What code must come to, as a proposition that is worked out from the code: for functions whose arguments are not known.
-/
import Derived.Test.YtnlcabhfkpafmaaGreatAdsMain
set_option linter.unusedSimpArgs false
set_option linter.unusedVariables false
namespace Go.Proofs.YtnlcabhfkpafmaaGreat
namespace Ads
def l1{α:Type}(args:List AV)(f:AV→Option α):Option α:=match args with
 |[x]=>f x
 |_=>none
def l2{α:Type}(args:List AV)(f:AV→AV→Option α):Option α:=match args with
 |[x,y]=>f x y
 |_=>none
def l3{α:Type}(args:List AV)(f:AV→AV→AV→Option α):Option α:=match args with
 |[x,y,z]=>f x y z
 |_=>none
def lc{α:Type}(args:List AV)(f:AV→List AV→Option α):Option α:=match args with
 |x::r=>f x r
 |_=>none
def CC{α:Type}(v:AV)(f:IntKind→Int→Option α):Option α:=match v with
 |.int k n=>f k n
 |_=>none
def D1{α:Type}(v:AV)(f:Bool→Option α):Option α:=match v with
 |.bool b=>f b
 |_=>none
def CE{α:Type}(v:AV)(f:List UInt8→Option α):Option α:=match v with
 |.str s=>f s
 |_=>none
def Fy{α:Type}(v:AV)(f:Nat→Nat→Option α):Option α:=match v with
 |.ptr b o=>f b o
 |_=>none
def MS{α:Type}(v:AV)(f:List AV→Option α):Option α:=match v with
 |.agg cs=>f cs
 |_=>none
def Qm{α:Type}(v:AV)(f:List AV→Option α):Option α:=match v with
 |.cn cs=>f cs
 |_=>none
def KF{α:Type}(v:AV)(f:Nat→Nat→Nat→Nat→Bool→Option α)(g:Option α):Option α:=match v with
 |.sl b o l c op=>f b o l c op
 |.aK=>g
 |_=>none
def tj{α:Type}(v:AV)(f:Nat→Option α):Option α:=match asNat v with
 |some n=>f n
 |none=>none
def Hw(op:BinOp)(x y:AV):Option AV:=
 match x with
 |.int k a=>CC y fun k' b=>cond (mj op) (rZ op k a b) (cond (decide (k=k')) (qT op k a b) none)
 |.str a=>CE y fun b=>zi op a b
 |_=>none
def lQ(size:Nat)(lo hi m:Bool)(x:AV)(r:List AV):Option AV:=
 match x with
 |.gY a=>(match bounds 0 0 lo hi m r with
  |some _=>some (.gY a)
  |none=>none)
 |.rest b o k=>(match bounds 0 0 lo hi m r with
  |some _=>cond m none (some (.rest b o k))
  |none=>none)
 |x=>KF x (fun b o len cap lX=>match bounds len cap lo hi m r with
  |some (l,h,mm)=>cond (Nat.beq mm l&&Nat.beq cap mm&&(lX&&!m&&!Nat.beq l 0)) (some (.rest b o (l*size))) (some (.sl b (o+cond (Nat.beq mm l) 0 (l*size)) (h-l) (mm-l) (cond m false lX)))
  |none=>none) (match bounds 0 0 lo hi m r with
  |some _=>some .aK
  |none=>none)
def ZF(o:qw)(args:List AV):Option AV:=
 match o with
 |.NP=>l1 args some
 |.pick=>l3 args fun c a b=>D1 c fun c=>some (cond c a b)
 |.bin op=>l2 args (Hw op)
 |.eq k=>l2 args fun x y=>(Ci k x y).map .bool
 |.neq k=>l2 args fun x y=>(Ci k x y).map fun b=>.bool !b
 |.not=>l1 args fun x=>D1 x fun b=>some (.bool !b)
 |.neg=>l1 args fun x=>CC x fun k n=>some (.int k (k.wrap (0-n)))
 |.EZ=>l1 args fun x=>CE x fun s=>some (.str s)
 |.conv k=>l1 args fun x=>CC x fun _ n=>some (.int k (k.wrap n))
 |.field off n g=>l1 args fun x=>MS x fun cs=>part cs off n g
 |.ext i=>l1 args fun x=>Qm x fun vs=>vs[i]?
 |.oZ=>l1 args fun x=>Fy x fun b o=>some (.ptr b o)
 |.vG off=>l1 args fun x=>Fy x fun b o=>some (.ptr b (o+off))
 |.ay size=>l2 args fun x i=>KF x (fun b o len _ _=>tj i fun i=>cond (Nat.ble (i+1) len) (some (.ptr b (o+i*size))) none) none
 |.kA size len=>l2 args fun x i=>Fy x fun b o=>tj i fun i=>cond (Nat.ble (i+1) len) (some (.ptr b (o+i*size))) none
 |.IY size len g=>l2 args fun x i=>MS x fun cs=>tj i fun i=>cond (Nat.ble (i+1) len) (part cs (i*size) size g) none
 |.Da=>l2 args fun x i=>CE x fun s=>tj i fun i=>(s[i]?).map fun b=>.int .u8 b.toNat
 |.build iN parts=>(fill iN parts args).map .agg
 |.va t=>l1 args fun x=>some (.iface t x)
 |.jN fn n=>some (.func fn (args.take n) (args.drop n))
 |.bK=>l1 args fun x=>match x with
  |.gY _=>some (.int .i64 0)
  |.rest _ _ _=>some (.int .i64 0)
  |x=>KF x (fun _ _ len _ _=>some (.int .i64 len)) (some (.int .i64 0))
 |.tK=>l1 args fun x=>CE x fun s=>some (.int .i64 s.length)
 |.I6 n=>some (.int .i64 n)
 |.mx=>lc args fun x r=>kL max2 x r
 |.mn=>lc args fun x r=>kL min2 x r
 |.slice size lo hi m=>lc args fun x r=>lQ size lo hi m x r
 |.pz lo hi=>lc args fun x r=>CE x fun s=>match bounds s.length s.length lo hi false r with
  |some (l,h,_)=>some (.str ((s.take h).drop l))
  |none=>none
 |.pq size len lo hi m=>lc args fun x r=>Fy x fun b o=>match bounds len len lo hi m r with
  |some (l,h,mm)=>some (.sl b (o+cond (Nat.beq mm l) 0 (l*size)) (h-l) (mm-l) false)
  |none=>none
 |.sS t ok zero=>l1 args fun x=>match x with
  |.iface u v=>cond (Nat.beq u t) (some (cond ok (.cn [v,.bool true]) v)) (cond ok (some (.cn [zero,.bool false])) none)
  |.kC=>cond ok (some (.cn [zero,.bool false])) none
  |_=>none
theorem MF(op:BinOp)(x y:AV):Hw op x y=xj op x y:=by
 cases x<;>cases y<;>rfl
end Ads
end Go.Proofs.YtnlcabhfkpafmaaGreat
set_option linter.unusedSimpArgs false
set_option linter.unusedVariables false
namespace Go.Proofs.YtnlcabhfkpafmaaGreat
namespace Ads
section
variable {α:Type}
def z4{β:Type}(x:Option β):Nat→Tr β→Nat→(Tr β→α)→α
 |0,t,_,k=>k t
 |f+1,.nil,n,k=>cond (Nat.beq n 0) (k (.node .nil x .nil))
   (cond (Nat.beq (n%2) 1) (z4 x f .nil (n/2) fun l=>k (.node l none .nil)) (z4 x f .nil (n/2-1) fun r=>k (.node .nil none r)))
 |f+1,.node l v r,n,k=>cond (Nat.beq n 0) (k (.node l x r))
   (cond (Nat.beq (n%2) 1) (z4 x f l (n/2) fun l=>k (.node l v r)) (z4 x f r (n/2-1) fun r=>k (.node l v r)))
theorem vk{β:Type}(x:Option β):∀(f:Nat) (t:Tr β) (n:Nat) (k:Tr β→α),z4 x f t n k=k (Tr.put x f t n)
 |0,t,n,k=>rfl
 |f+1,.nil,n,k=>by
  simp only[z4,Tr.put];cases Nat.beq n 0
  ·cases Nat.beq (n%2) 1<;>simp[vk x f,Tr.left,Tr.right,Tr.val]
  ·rfl
 |f+1,.node l v r,n,k=>by
  simp only[z4,Tr.put];cases Nat.beq n 0
  ·cases Nat.beq (n%2) 1<;>simp[vk x f,Tr.left,Tr.right,Tr.val]
  ·rfl
end
def DP{α:Type}:List AV→Nat→Env→(Env→α)→α
 |[],_,e,k=>k e
 |v::vs,i,e,k=>z4 (some v) (i+1) e i fun e=>DP vs (i+1) e k
theorem AI{α:Type}:∀(l:List AV) (i:Nat) (e:Env) (k:Env→α),DP l i e k=k (Env.args l i e)
 |[],i,e,k=>rfl
 |v::vs,i,e,k=>by simp[DP,vk,AI vs,Env.args,Tr.set]
def Aj{α:Type}(n:Nat)(args:List AV)(k:Env→α):α:=DP args 0 (Tr.full (Nat.log2 n+1)) k
theorem yZ{α:Type}(n:Nat)(args:List AV)(k:Env→α):Aj n args k=k (Env.start n args):=AI _ _ _ _
def OO{α β:Type}(t:Tr β)(n:Nat)(x:β)(k:Tr β→α):α:=z4 (some x) (n+1) t n k
theorem Ag{α β:Type}(t:Tr β)(n:Nat)(x:β)(k:Tr β→α):OO t n x k=k (t.set n x):=vk _ _ _ _ _
def oA{α:Type}(e:Env)(d:Option Nat)(v:AV)(k:Env→α):α:=match d with
 |some d=>OO e d v k
 |none=>k e
theorem vj{α:Type}(e:Env)(d:Option Nat)(v:AV)(k:Env→α):oA e d v k=k (e.put d v):=by
 cases d<;>simp[oA,Env.put,Ag]
end Ads
end Go.Proofs.YtnlcabhfkpafmaaGreat
set_option linter.unusedSimpArgs false
set_option linter.unusedVariables false
namespace Go.Proofs.YtnlcabhfkpafmaaGreat
namespace Ads
end Ads
end Go.Proofs.YtnlcabhfkpafmaaGreat
set_option linter.unusedSimpArgs false
set_option linter.unusedVariables false
namespace Go.Proofs.YtnlcabhfkpafmaaGreat
namespace Ads
mutual
def AV.same:AV→AV→Bool
 |.bool a,.bool b=>a==b
 |.int k n,.int k' m=>cond (decide (k=k')) (decide (n=m)) false
 |.str s,.str t=>s==t
 |.ptr b o,.ptr b' o'=>Nat.beq b b'&&Nat.beq o o'
 |.aP,.aP=>true
 |.sl b o l c op,.sl b' o' l' c' op'=>Nat.beq b b'&&Nat.beq o o'&&Nat.beq l l'&&Nat.beq c c'&&op==op'
 |.aK,.aK=>true
 |.map b,.map b'=>Nat.beq b b'
 |.kD,.kD=>true
 |.func f a c,.func f' a' c'=>decide (f=f')&&wR a a'&&wR c c'
 |.j9,.j9=>true
 |.yield b,.yield b'=>Nat.beq b b'
 |.iface t v,.iface t' v'=>Nat.beq t t'&&v.same v'
 |.kC,.kC=>true
 |.agg cs,.agg cs'=>wR cs cs'
 |.cn cs,.cn cs'=>wR cs cs'
 |.rest b o k,.rest b' o' k'=>Nat.beq b b'&&Nat.beq o o'&&Nat.beq k k'
 |_,_=>false
def wR:List AV→List AV→Bool
 |[],[]=>true
 |v::vs,u::us=>v.same u&&wR vs us
 |_,_=>false
end
mutual
theorem AV.EY:∀{v u:AV},v.same u=true→v=u:=by
 intro v u h;cases v<;>cases u<;>simp only[AV.same,Bool.and_eq_true,beq_iff_eq,Bool.false_eq_true,decide_eq_true_eq] at h<;>
  first
  |rfl
  |(obtain rfl:=h;rfl)
  |(have:=Nat.eq_of_beq_eq_true h;subst this;rfl)
  |(have h1:=Nat.eq_of_beq_eq_true h.1;have h2:=Nat.eq_of_beq_eq_true h.2;subst h1 h2;rfl)
  |(obtain⟨⟨⟨⟨h1,h2⟩,h3⟩,h4⟩,h5⟩:=h;have:=Nat.eq_of_beq_eq_true h1;have:=Nat.eq_of_beq_eq_true h2;have:=Nat.eq_of_beq_eq_true h3;have:=Nat.eq_of_beq_eq_true h4;subst_vars;rfl)
  |(obtain⟨⟨h1,h2⟩,h3⟩:=h;have:=Nat.eq_of_beq_eq_true h1;have:=Nat.eq_of_beq_eq_true h2;have:=Nat.eq_of_beq_eq_true h3;subst_vars;rfl)
  |(rename_i k n k' m;by_cases hk:k=k'<;>simp[hk] at h;subst hk h;rfl)
  |(rw[sP h])
  |(obtain⟨⟨h1,h2⟩,h3⟩:=h;rw[h1,sP h2,sP h3])
  |(obtain⟨h1,h2⟩:=h;rw[Nat.eq_of_beq_eq_true h1,AV.EY h2])
theorem sP:∀{v u:List AV},wR v u=true→v=u:=by
 intro v u h;cases v<;>cases u<;>simp only[wR,Bool.and_eq_true,Bool.false_eq_true] at h
 ·rfl
 ·rw[AV.EY h.1,sP h.2]
end
abbrev Yf:=Nat→List AV→Heap→Option (AV×Heap)
section
variable (fs:Nat→Option ak) (ms:Nat→String→Option Nat) (orc:Yf)
end
section
variable {fs:Nat→Option ak} {ms:Nat→String→Option Nat} {orc:Yf}
theorem rE:∀{l:List bF} {rd:Bool} {e:Env} {h:Heap} {tr:List aM} {e':Env} {h':Heap},nS l=true→BS fs ms (.ops rd l e h) (.ops tr e' h')→h'=h
 |[],rd,e,h,tr,e',h',_,hb=>by cases hb;rfl
 |i::l,rd,e,h,tr,e',h',hp,hb=>by
  simp only[nS,Bool.and_eq_true] at hp;cases hb with
  |off hw hl=>exact rE hp.2 hl
  |on hw ho hl=>
   obtain⟨d,gd,op,as⟩:=i;cases op<;>cases gd<;>simp at hp
   cases ho
   exact rE hp hl
end
end Ads
end Go.Proofs.YtnlcabhfkpafmaaGreat
set_option linter.unusedSimpArgs false
set_option linter.unusedVariables false
namespace Go.Proofs.YtnlcabhfkpafmaaGreat
namespace Ads
def ZU(o:Sx)(args:List AV):Option (dD×(Nat→AV)):=
 match o with
 |.alloc iN=>match args with
  |[]=>some (.cells iN true 0,fun b=>.ptr b 0)
  |_=>none
 |.box=>l1 args fun v=>some (.cells v.cells true 0,fun b=>.ptr b 0)
 |o=>aI o args
theorem PS(o:Sx)(args:List AV):ZU o args=aI o args:=by
 cases o
 case alloc z=>cases args<;>rfl
 case box=>rcases args with _|⟨x,_|⟨y,r⟩⟩<;>rfl
 all_goals rfl
section
variable (fs:Nat→Option ak) (ms:Nat→String→Option Nat) (orc:Yf)
end
end Ads
end Go.Proofs.YtnlcabhfkpafmaaGreat
set_option linter.unusedSimpArgs false
set_option linter.unusedVariables false
namespace Go.Proofs.YtnlcabhfkpafmaaGreat
namespace Ads
def KS(q:Nat→ak→Prop):List (Nat×ak)→Prop
 |[]=>True
 |p::l=>q p.1 p.2∧KS q l
def UD:List (Nat×ak)→Tr ak
 |[]=>.nil
 |p::l=>(UD l).set p.1 p.2
theorem zY{q:Nat→ak→Prop}:∀{l:List (Nat×ak)},KS q l→∀{f:Nat} {af:ak},(UD l).get f=some af→q f af
 |[],_,f,af,h=>by simp[UD,Tr.get] at h
 |p::l,hq,f,af,h=>by
  simp only[UD,Tr.bS] at h;split at h
  ·rename_i he;cases h
   rw[he];exact hq.1
  ·exact zY hq.2 h
section
variable {P:Program} {fs:Nat→Option ak} {ms:Nat→String→Option Nat}
structure Kept(w w':World):Prop where
 size:w.heap.size≤w'.heap.size
 old:∀r:Nat,r<w.heap.size→w'.heap[r]?=w.heap[r]?
 tape:w'.tape=w.tape
 os:w'.os=w.os
 output:w'.output=w.output
end
end Ads
end Go.Proofs.YtnlcabhfkpafmaaGreat
set_option linter.unusedSimpArgs false
set_option linter.unusedVariables false
namespace Go.Proofs.YtnlcabhfkpafmaaGreat
namespace Ads
section
variable (fs:Nat→Option ak) (ms:Nat→String→Option Nat) (rd:Bool)
abbrev Fs(t:Bool)(A B:Prop):Prop:=@Bool.rec (fun _=>Prop) B A t
end
section
variable {fs:Nat→Option ak} {ms:Nat→String→Option Nat} {rd:Bool}
theorem br{t:Bool}{A B:Prop}(h1:t=true→A)(h2:t=false→B):@Bool.rec (fun _=>Prop) B A t:=by
 cases t with
 |true=>exact h1 rfl
 |false=>exact h2 rfl
def sk:Nat→(Nat→Option AV)→Env
 |0,_=>.nil
 |d+1,g=>.node (sk d fun j=>g (2*j+1)) (g 0) (sk d fun j=>g (2*j+2))
def kn(l:List (Nat×AV))(g:Nat→Option AV)(i:Nat):Option AV:=
 match l with
 |[]=>g i
 |(j,v)::r=>cond (Nat.beq i j) (some v) (kn r g i)
def dr(e:Env):List (Nat×AV)→Prop
 |[]=>True
 |(i,v)::l=>Tr.get e i=some v∧dr e l
end
end Ads
end Go.Proofs.YtnlcabhfkpafmaaGreat
