/-
  The pure operations once more, one small function each: for the kernel, that copies what it opens.
  An evaluator of big steps for Lean's kernel: continuations, data worked out before it is handed on. It is sound.
  The evaluator: loops' records are kept; comparing; the evaluator itself, and that it is sound.
  The evaluator itself, and that it is sound.
  The evaluator in small pieces: for the kernel, that copies what it opens.
  Tables of compiled functions; what a closed run comes to in the model.
  What code must come to, as a proposition that is worked out from the code: for functions whose arguments are not known.
-/
import Derived.Test.YtnlcabhfkpafmaaGreatAdsMain
set_option linter.unusedSimpArgs false
set_option linter.unusedVariables false
namespace Go.Proofs.YtnlcabhfkpafmaaGreat
namespace Ads
def l1{α:Type}(args:List AV)(f:AV→Option α):Option α:=match args with
 |[x]=>f x
 |_=>none
def l2{α:Type}(args:List AV)(f:AV→AV→Option α):Option α:=match args with
 |[x,y]=>f x y
 |_=>none
def l3{α:Type}(args:List AV)(f:AV→AV→AV→Option α):Option α:=match args with
 |[x,y,z]=>f x y z
 |_=>none
def lc{α:Type}(args:List AV)(f:AV→List AV→Option α):Option α:=match args with
 |x::r=>f x r
 |_=>none
def CB{α:Type}(v:AV)(f:IntKind→Int→Option α):Option α:=match v with
 |.int k n=>f k n
 |_=>none
def D1{α:Type}(v:AV)(f:Bool→Option α):Option α:=match v with
 |.bool b=>f b
 |_=>none
def CD{α:Type}(v:AV)(f:List UInt8→Option α):Option α:=match v with
 |.str s=>f s
 |_=>none
def Fy{α:Type}(v:AV)(f:Nat→Nat→Option α):Option α:=match v with
 |.ptr b o=>f b o
 |_=>none
def MQ{α:Type}(v:AV)(f:List AV→Option α):Option α:=match v with
 |.agg cs=>f cs
 |_=>none
def Ql{α:Type}(v:AV)(f:List AV→Option α):Option α:=match v with
 |.cq cs=>f cs
 |_=>none
def KD{α:Type}(v:AV)(f:Nat→Nat→Nat→Nat→Bool→Option α)(g:Option α):Option α:=match v with
 |.sl b o l c op=>f b o l c op
 |.aL=>g
 |_=>none
def tn{α:Type}(v:AV)(f:Nat→Option α):Option α:=match asNat v with
 |some n=>f n
 |none=>none
def Hv(op:BinOp)(x y:AV):Option AV:=
 match x with
 |.int k a=>CB y fun k' b=>cond (mq op) (r5 op k a b) (cond (decide (k=k')) (qU op k a b) none)
 |.str a=>CD y fun b=>zh op a b
 |_=>none
def lS(size:Nat)(lo hi m:Bool)(x:AV)(r:List AV):Option AV:=
 match x with
 |.gY a=>(match bounds 0 0 lo hi m r with
  |some _=>some (.gY a)
  |none=>none)
 |.rest b o k=>(match bounds 0 0 lo hi m r with
  |some _=>cond m none (some (.rest b o k))
  |none=>none)
 |x=>KD x (fun b o len cap lZ=>match bounds len cap lo hi m r with
  |some (l,h,mm)=>cond (Nat.beq mm l&&Nat.beq cap mm&&(lZ&&!m&&!Nat.beq l 0)) (some (.rest b o (l*size))) (some (.sl b (o+cond (Nat.beq mm l) 0 (l*size)) (h-l) (mm-l) (cond m false lZ)))
  |none=>none) (match bounds 0 0 lo hi m r with
  |some _=>some .aL
  |none=>none)
def ZH(o:qx)(args:List AV):Option AV:=
 match o with
 |.NN=>l1 args some
 |.pick=>l3 args fun c a b=>D1 c fun c=>some (cond c a b)
 |.bin op=>l2 args (Hv op)
 |.eq k=>l2 args fun x y=>(Ch k x y).map .bool
 |.neq k=>l2 args fun x y=>(Ch k x y).map fun b=>.bool !b
 |.not=>l1 args fun x=>D1 x fun b=>some (.bool !b)
 |.neg=>l1 args fun x=>CB x fun k n=>some (.int k (k.wrap (0-n)))
 |.EZ=>l1 args fun x=>CD x fun s=>some (.str s)
 |.conv k=>l1 args fun x=>CB x fun _ n=>some (.int k (k.wrap n))
 |.field off n g=>l1 args fun x=>MQ x fun cs=>part cs off n g
 |.ext i=>l1 args fun x=>Ql x fun vs=>vs[i]?
 |.o5=>l1 args fun x=>Fy x fun b o=>some (.ptr b o)
 |.vH off=>l1 args fun x=>Fy x fun b o=>some (.ptr b (o+off))
 |.az size=>l2 args fun x i=>KD x (fun b o len _ _=>tn i fun i=>cond (Nat.ble (i+1) len) (some (.ptr b (o+i*size))) none) none
 |.kC size len=>l2 args fun x i=>Fy x fun b o=>tn i fun i=>cond (Nat.ble (i+1) len) (some (.ptr b (o+i*size))) none
 |.IX size len g=>l2 args fun x i=>MQ x fun cs=>tn i fun i=>cond (Nat.ble (i+1) len) (part cs (i*size) size g) none
 |.C8=>l2 args fun x i=>CD x fun s=>tn i fun i=>(s[i]?).map fun b=>.int .u8 b.toNat
 |.build iP parts=>(fill iP parts args).map .agg
 |.vb t=>l1 args fun x=>some (.iface t x)
 |.jP fn n=>some (.func fn (args.take n) (args.drop n))
 |.bL=>l1 args fun x=>match x with
  |.gY _=>some (.int .i64 0)
  |.rest _ _ _=>some (.int .i64 0)
  |x=>KD x (fun _ _ len _ _=>some (.int .i64 len)) (some (.int .i64 0))
 |.tL=>l1 args fun x=>CD x fun s=>some (.int .i64 s.length)
 |.I5 n=>some (.int .i64 n)
 |.mx=>lc args fun x r=>kN max2 x r
 |.mn=>lc args fun x r=>kN min2 x r
 |.slice size lo hi m=>lc args fun x r=>lS size lo hi m x r
 |.pE lo hi=>lc args fun x r=>CD x fun s=>match bounds s.length s.length lo hi false r with
  |some (l,h,_)=>some (.str ((s.take h).drop l))
  |none=>none
 |.pz size len lo hi m=>lc args fun x r=>Fy x fun b o=>match bounds len len lo hi m r with
  |some (l,h,mm)=>some (.sl b (o+cond (Nat.beq mm l) 0 (l*size)) (h-l) (mm-l) false)
  |none=>none
 |.sU t ok zero=>l1 args fun x=>match x with
  |.iface u v=>cond (Nat.beq u t) (some (cond ok (.cq [v,.bool true]) v)) (cond ok (some (.cq [zero,.bool false])) none)
  |.kE=>cond ok (some (.cq [zero,.bool false])) none
  |_=>none
theorem MD(op:BinOp)(x y:AV):Hv op x y=xk op x y:=by
 cases x<;>cases y<;>rfl
end Ads
end Go.Proofs.YtnlcabhfkpafmaaGreat
set_option linter.unusedSimpArgs false
set_option linter.unusedVariables false
namespace Go.Proofs.YtnlcabhfkpafmaaGreat
namespace Ads
section
variable {α:Type}
def z4{β:Type}(x:Option β):Nat→Tr β→Nat→(Tr β→α)→α
 |0,t,_,k=>k t
 |f+1,.nil,n,k=>cond (Nat.beq n 0) (k (.node .nil x .nil))
   (cond (Nat.beq (n%2) 1) (z4 x f .nil (n/2) fun l=>k (.node l none .nil)) (z4 x f .nil (n/2-1) fun r=>k (.node .nil none r)))
 |f+1,.node l v r,n,k=>cond (Nat.beq n 0) (k (.node l x r))
   (cond (Nat.beq (n%2) 1) (z4 x f l (n/2) fun l=>k (.node l v r)) (z4 x f r (n/2-1) fun r=>k (.node l v r)))
theorem vl{β:Type}(x:Option β):∀(f:Nat) (t:Tr β) (n:Nat) (k:Tr β→α),z4 x f t n k=k (Tr.put x f t n)
 |0,t,n,k=>rfl
 |f+1,.nil,n,k=>by
  simp only[z4,Tr.put];cases Nat.beq n 0
  ·cases Nat.beq (n%2) 1<;>simp[vl x f,Tr.left,Tr.right,Tr.val]
  ·rfl
 |f+1,.node l v r,n,k=>by
  simp only[z4,Tr.put];cases Nat.beq n 0
  ·cases Nat.beq (n%2) 1<;>simp[vl x f,Tr.left,Tr.right,Tr.val]
  ·rfl
end
def DP{α:Type}:List AV→Nat→Env→(Env→α)→α
 |[],_,e,k=>k e
 |v::vs,i,e,k=>z4 (some v) (i+1) e i fun e=>DP vs (i+1) e k
theorem AI{α:Type}:∀(l:List AV) (i:Nat) (e:Env) (k:Env→α),DP l i e k=k (Env.args l i e)
 |[],i,e,k=>rfl
 |v::vs,i,e,k=>by simp[DP,vl,AI vs,Env.args,Tr.set]
def Aj{α:Type}(n:Nat)(args:List AV)(k:Env→α):α:=DP args 0 (Tr.full (Nat.log2 n+1)) k
theorem yX{α:Type}(n:Nat)(args:List AV)(k:Env→α):Aj n args k=k (Env.start n args):=AI _ _ _ _
def OM{α β:Type}(t:Tr β)(n:Nat)(x:β)(k:Tr β→α):α:=z4 (some x) (n+1) t n k
theorem Ag{α β:Type}(t:Tr β)(n:Nat)(x:β)(k:Tr β→α):OM t n x k=k (t.set n x):=vl _ _ _ _ _
def oC{α:Type}(e:Env)(d:Option Nat)(v:AV)(k:Env→α):α:=match d with
 |some d=>OM e d v k
 |none=>k e
theorem vk{α:Type}(e:Env)(d:Option Nat)(v:AV)(k:Env→α):oC e d v k=k (e.put d v):=by
 cases d<;>simp[oC,Env.put,Ag]
end Ads
end Go.Proofs.YtnlcabhfkpafmaaGreat
set_option linter.unusedSimpArgs false
set_option linter.unusedVariables false
namespace Go.Proofs.YtnlcabhfkpafmaaGreat
namespace Ads
end Ads
end Go.Proofs.YtnlcabhfkpafmaaGreat
set_option linter.unusedSimpArgs false
set_option linter.unusedVariables false
namespace Go.Proofs.YtnlcabhfkpafmaaGreat
namespace Ads
mutual
def AV.same:AV→AV→Bool
 |.bool a,.bool b=>a==b
 |.int k n,.int k' m=>cond (decide (k=k')) (decide (n=m)) false
 |.str s,.str t=>s==t
 |.ptr b o,.ptr b' o'=>Nat.beq b b'&&Nat.beq o o'
 |.aQ,.aQ=>true
 |.sl b o l c op,.sl b' o' l' c' op'=>Nat.beq b b'&&Nat.beq o o'&&Nat.beq l l'&&Nat.beq c c'&&op==op'
 |.aL,.aL=>true
 |.map b,.map b'=>Nat.beq b b'
 |.kF,.kF=>true
 |.func f a c,.func f' a' c'=>decide (f=f')&&wS a a'&&wS c c'
 |.kf,.kf=>true
 |.yield b,.yield b'=>Nat.beq b b'
 |.iface t v,.iface t' v'=>Nat.beq t t'&&v.same v'
 |.kE,.kE=>true
 |.agg cs,.agg cs'=>wS cs cs'
 |.cq cs,.cq cs'=>wS cs cs'
 |.rest b o k,.rest b' o' k'=>Nat.beq b b'&&Nat.beq o o'&&Nat.beq k k'
 |_,_=>false
def wS:List AV→List AV→Bool
 |[],[]=>true
 |v::vs,u::us=>v.same u&&wS vs us
 |_,_=>false
end
mutual
theorem AV.EY:∀{v u:AV},v.same u=true→v=u:=by
 intro v u h;cases v<;>cases u<;>simp only[AV.same,Bool.and_eq_true,beq_iff_eq,Bool.false_eq_true,decide_eq_true_eq] at h<;>
  first
  |rfl
  |(obtain rfl:=h;rfl)
  |(have:=Nat.eq_of_beq_eq_true h;subst this;rfl)
  |(have h1:=Nat.eq_of_beq_eq_true h.1;have h2:=Nat.eq_of_beq_eq_true h.2;subst h1 h2;rfl)
  |(obtain⟨⟨⟨⟨h1,h2⟩,h3⟩,h4⟩,h5⟩:=h;have:=Nat.eq_of_beq_eq_true h1;have:=Nat.eq_of_beq_eq_true h2;have:=Nat.eq_of_beq_eq_true h3;have:=Nat.eq_of_beq_eq_true h4;subst_vars;rfl)
  |(obtain⟨⟨h1,h2⟩,h3⟩:=h;have:=Nat.eq_of_beq_eq_true h1;have:=Nat.eq_of_beq_eq_true h2;have:=Nat.eq_of_beq_eq_true h3;subst_vars;rfl)
  |(rename_i k n k' m;by_cases hk:k=k'<;>simp[hk] at h;subst hk h;rfl)
  |(rw[sQ h])
  |(obtain⟨⟨h1,h2⟩,h3⟩:=h;rw[h1,sQ h2,sQ h3])
  |(obtain⟨h1,h2⟩:=h;rw[Nat.eq_of_beq_eq_true h1,AV.EY h2])
theorem sQ:∀{v u:List AV},wS v u=true→v=u:=by
 intro v u h;cases v<;>cases u<;>simp only[wS,Bool.and_eq_true,Bool.false_eq_true] at h
 ·rfl
 ·rw[AV.EY h.1,sQ h.2]
end
abbrev Yh:=Nat→List AV→Heap→Option (AV×Heap)
section
variable (fs:Nat→Option an) (ms:Nat→String→Option Nat) (orc:Yh)
end
section
variable {fs:Nat→Option an} {ms:Nat→String→Option Nat} {orc:Yh}
theorem rF:∀{l:List bE} {rd:Bool} {e:Env} {h:Heap} {tr:List aN} {e':Env} {h':Heap},nU l=true→BS fs ms (.ops rd l e h) (.ops tr e' h')→h'=h
 |[],rd,e,h,tr,e',h',_,hb=>by cases hb;rfl
 |i::l,rd,e,h,tr,e',h',hp,hb=>by
  simp only[nU,Bool.and_eq_true] at hp;cases hb with
  |off hw hl=>exact rF hp.2 hl
  |on hw ho hl=>
   obtain⟨d,gd,op,as⟩:=i;cases op<;>cases gd<;>simp at hp
   cases ho
   exact rF hp hl
end
end Ads
end Go.Proofs.YtnlcabhfkpafmaaGreat
set_option linter.unusedSimpArgs false
set_option linter.unusedVariables false
namespace Go.Proofs.YtnlcabhfkpafmaaGreat
namespace Ads
def ZW(o:Sy)(args:List AV):Option (dD×(Nat→AV)):=
 match o with
 |.alloc iP=>match args with
  |[]=>some (.cells iP true 0,fun b=>.ptr b 0)
  |_=>none
 |.box=>l1 args fun v=>some (.cells v.cells true 0,fun b=>.ptr b 0)
 |o=>aI o args
theorem PR(o:Sy)(args:List AV):ZW o args=aI o args:=by
 cases o
 case alloc z=>cases args<;>rfl
 case box=>rcases args with _|⟨x,_|⟨y,r⟩⟩<;>rfl
 all_goals rfl
section
variable (fs:Nat→Option an) (ms:Nat→String→Option Nat) (orc:Yh)
end
end Ads
end Go.Proofs.YtnlcabhfkpafmaaGreat
set_option linter.unusedSimpArgs false
set_option linter.unusedVariables false
namespace Go.Proofs.YtnlcabhfkpafmaaGreat
namespace Ads
def KQ(q:Nat→an→Prop):List (Nat×an)→Prop
 |[]=>True
 |p::l=>q p.1 p.2∧KQ q l
def UF:List (Nat×an)→Tr an
 |[]=>.nil
 |p::l=>(UF l).set p.1 p.2
theorem zY{q:Nat→an→Prop}:∀{l:List (Nat×an)},KQ q l→∀{f:Nat} {af:an},(UF l).get f=some af→q f af
 |[],_,f,af,h=>by simp[UF,Tr.get] at h
 |p::l,hq,f,af,h=>by
  simp only[UF,Tr.bT] at h;split at h
  ·rename_i he;cases h
   rw[he];exact hq.1
  ·exact zY hq.2 h
section
variable {P:Program} {fs:Nat→Option an} {ms:Nat→String→Option Nat}
structure Kept(w w':World):Prop where
 size:w.heap.size≤w'.heap.size
 old:∀r:Nat,r<w.heap.size→w'.heap[r]?=w.heap[r]?
 tape:w'.tape=w.tape
 os:w'.os=w.os
 output:w'.output=w.output
end
end Ads
end Go.Proofs.YtnlcabhfkpafmaaGreat
set_option linter.unusedSimpArgs false
set_option linter.unusedVariables false
namespace Go.Proofs.YtnlcabhfkpafmaaGreat
namespace Ads
section
variable (fs:Nat→Option an) (ms:Nat→String→Option Nat) (rd:Bool)
abbrev Fs(t:Bool)(A B:Prop):Prop:=@Bool.rec (fun _=>Prop) B A t
end
section
variable {fs:Nat→Option an} {ms:Nat→String→Option Nat} {rd:Bool}
theorem br{t:Bool}{A B:Prop}(h1:t=true→A)(h2:t=false→B):@Bool.rec (fun _=>Prop) B A t:=by
 cases t with
 |true=>exact h1 rfl
 |false=>exact h2 rfl
def sk:Nat→(Nat→Option AV)→Env
 |0,_=>.nil
 |d+1,g=>.node (sk d fun j=>g (2*j+1)) (g 0) (sk d fun j=>g (2*j+2))
def kn(l:List (Nat×AV))(g:Nat→Option AV)(i:Nat):Option AV:=
 match l with
 |[]=>g i
 |(j,v)::r=>cond (Nat.beq i j) (some v) (kn r g i)
def dr(e:Env):List (Nat×AV)→Prop
 |[]=>True
 |(i,v)::l=>Tr.get e i=some v∧dr e l
end
end Ads
end Go.Proofs.YtnlcabhfkpafmaaGreat
