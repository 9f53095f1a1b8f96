/-
  The pure operations once more, one small function each: for the kernel, that copies what it opens.
  An evaluator of big steps for Lean's kernel: continuations, data worked out before it is handed on. It is sound.
  The evaluator: loops' records are kept; comparing; the evaluator itself, and that it is sound.
  The evaluator itself, and that it is sound.
  The evaluator in small pieces: for the kernel, that copies what it opens.
  Tables of compiled functions; what a closed run comes to in the model.
  What code must come to, as a proposition that is worked out from the code: for functions whose arguments are not known.
-/
import Derived.Test.YtepdklcpagielaaAdsMain
set_option linter.unusedSimpArgs false
set_option linter.unusedVariables false
namespace Go.Proofs.Ytepdklcpagielaa
namespace Ads
def l1{α:Type}(args:List AV)(f:AV→Option α):Option α:=match args with
 |[x]=>f x
 |_=>none
def l2{α:Type}(args:List AV)(f:AV→AV→Option α):Option α:=match args with
 |[x,y]=>f x y
 |_=>none
def l3{α:Type}(args:List AV)(f:AV→AV→AV→Option α):Option α:=match args with
 |[x,y,z]=>f x y z
 |_=>none
def lc{α:Type}(args:List AV)(f:AV→List AV→Option α):Option α:=match args with
 |x::r=>f x r
 |_=>none
def Cn{α:Type}(v:AV)(f:IntKind→Int→Option α):Option α:=match v with
 |.int k n=>f k n
 |_=>none
def Hi{α:Type}(v:AV)(f:Bool→Option α):Option α:=match v with
 |.bool b=>f b
 |_=>none
def FB{α:Type}(v:AV)(f:List UInt8→Option α):Option α:=match v with
 |.str s=>f s
 |_=>none
def DK{α:Type}(v:AV)(f:Nat→Nat→Option α):Option α:=match v with
 |.ptr b o=>f b o
 |_=>none
def OF{α:Type}(v:AV)(f:List AV→Option α):Option α:=match v with
 |.agg cs=>f cs
 |_=>none
def RK{α:Type}(v:AV)(f:List AV→Option α):Option α:=match v with
 |.cQ cs=>f cs
 |_=>none
def Ui{α:Type}(v:AV)(f:Nat→Nat→Nat→Nat→Bool→Option α)(g:Option α):Option α:=match v with
 |.sl b o l c op=>f b o l c op
 |.aD=>g
 |_=>none
def uo{α:Type}(v:AV)(f:Nat→Option α):Option α:=match asNat v with
 |some n=>f n
 |none=>none
def Fp(op:BinOp)(x y:AV):Option AV:=
 match x with
 |.int k a=>Cn y fun k' b=>cond (lR op) (oX op k a b) (cond (decide (k=k')) (ug op k a b) none)
 |.str a=>FB y fun b=>Cg op a b
 |_=>none
def GH(size:Nat)(lo hi m:Bool)(x:AV)(r:List AV):Option AV:=
 match x with
 |.gO a=>(match bounds 0 0 lo hi m r with
  |some _=>some (.gO a)
  |none=>none)
 |.rest b o k=>(match bounds 0 0 lo hi m r with
  |some _=>cond m none (some (.rest b o k))
  |none=>none)
 |x=>Ui x (fun b o len cap kU=>match bounds len cap lo hi m r with
  |some (l,h,mm)=>cond (Nat.beq mm l&&Nat.beq cap mm&&(kU&&!m&&!Nat.beq l 0)) (some (.rest b o (l*size))) (some (.sl b (o+cond (Nat.beq mm l) 0 (l*size)) (h-l) (mm-l) (cond m false kU)))
  |none=>none) (match bounds 0 0 lo hi m r with
  |some _=>some .aD
  |none=>none)
def NC(o:sH)(args:List AV):Option AV:=
 match o with
 |.J3=>l1 args some
 |.pick=>l3 args fun c a b=>Hi c fun c=>some (cond c a b)
 |.bin op=>l2 args (Fp op)
 |.eq k=>l2 args fun x y=>(Dd k x y).map .bool
 |.neq k=>l2 args fun x y=>(Dd k x y).map fun b=>.bool !b
 |.not=>l1 args fun x=>Hi x fun b=>some (.bool !b)
 |.neg=>l1 args fun x=>Cn x fun k n=>some (.int k (k.wrap (0-n)))
 |.HV=>l1 args fun x=>FB x fun s=>some (.str s)
 |.conv k=>l1 args fun x=>Cn x fun _ n=>some (.int k (k.wrap n))
 |.field off n g=>l1 args fun x=>OF x fun cs=>part cs off n g
 |.ext i=>l1 args fun x=>RK x fun vs=>vs[i]?
 |.rQ=>l1 args fun x=>DK x fun b o=>some (.ptr b o)
 |.yH off=>l1 args fun x=>DK x fun b o=>some (.ptr b (o+off))
 |.aE size=>l2 args fun x i=>Ui x (fun b o len _ _=>uo i fun i=>cond (Nat.ble (i+1) len) (some (.ptr b (o+i*size))) none) none
 |.bT size len=>l2 args fun x i=>DK x fun b o=>uo i fun i=>cond (Nat.ble (i+1) len) (some (.ptr b (o+i*size))) none
 |.IZ size len g=>l2 args fun x i=>OF x fun cs=>uo i fun i=>cond (Nat.ble (i+1) len) (part cs (i*size) size g) none
 |.I0=>l2 args fun x i=>FB x fun s=>uo i fun i=>(s[i]?).map fun b=>.int .u8 b.toNat
 |.build jm parts=>(fill jm parts args).map .agg
 |.vo t=>l1 args fun x=>some (.iface t x)
 |.gJ fn n=>some (.func fn (args.take n) (args.drop n))
 |.bO=>l1 args fun x=>match x with
  |.gO _=>some (.int .i64 0)
  |.rest _ _ _=>some (.int .i64 0)
  |x=>Ui x (fun _ _ len _ _=>some (.int .i64 len)) (some (.int .i64 0))
 |.CG=>l1 args fun x=>FB x fun s=>some (.int .i64 s.length)
 |.I4 n=>some (.int .i64 n)
 |.mx=>lc args fun x r=>mQ max2 x r
 |.mn=>lc args fun x r=>mQ min2 x r
 |.slice size lo hi m=>lc args fun x r=>GH size lo hi m x r
 |.nS lo hi=>lc args fun x r=>FB x fun s=>match bounds s.length s.length lo hi false r with
  |some (l,h,_)=>some (.str ((s.take h).drop l))
  |none=>none
 |.iY size len lo hi m=>lc args fun x r=>DK x fun b o=>match bounds len len lo hi m r with
  |some (l,h,mm)=>some (.sl b (o+cond (Nat.beq mm l) 0 (l*size)) (h-l) (mm-l) false)
  |none=>none
 |.qD t ok zero=>l1 args fun x=>match x with
  |.iface u v=>cond (Nat.beq u t) (some (cond ok (.cQ [v,.bool true]) v)) (cond ok (some (.cQ [zero,.bool false])) none)
  |.kr=>cond ok (some (.cQ [zero,.bool false])) none
  |_=>none
theorem G7(op:BinOp)(x y:AV):Fp op x y=Ao op x y:=by
 cases x<;>cases y<;>rfl
theorem Gn(o:sH)(args:List AV):NC o args=pI o args:=by
 cases o
 case build z ps=>rfl
 case gJ fn n=>rfl
 case I4 n=>rfl
 case bin op=>rcases args with _|⟨x,_|⟨y,_|⟨z,r⟩⟩⟩<;>first|rfl|exact G7 op x y
 case mx=>cases args<;>rfl
 case mn=>cases args<;>rfl
 case slice size lo hi m=>rcases args with _|⟨x,r⟩<;>first|rfl|(cases x<;>rfl)
 case nS lo hi=>rcases args with _|⟨x,r⟩<;>first|rfl|(cases x<;>rfl)
 case iY size len lo hi m=>rcases args with _|⟨x,r⟩<;>first|rfl|(cases x<;>rfl)
 case pick=>rcases args with _|⟨x,_|⟨y,_|⟨z,_|⟨u,r⟩⟩⟩⟩<;>first|rfl|(cases x<;>rfl)
 case qD t ok zero=>rcases args with _|⟨x,_|⟨y,r⟩⟩<;>first|rfl|(cases x<;>rfl)
 all_goals (rcases args with _|⟨x,_|⟨y,_|⟨z,r⟩⟩⟩<;>first|rfl|(cases x<;>rfl)|(cases x<;>cases y<;>rfl))
end Ads
end Go.Proofs.Ytepdklcpagielaa
set_option linter.unusedSimpArgs false
set_option linter.unusedVariables false
namespace Go.Proofs.Ytepdklcpagielaa
namespace Ads
section
variable {α:Type}
def rz(n:Nat)(k:Nat→α):α:=match n with
 |0=>k 0
 |m+1=>k (Nat.succ m)
theorem xV(n:Nat)(k:Nat→α):rz n k=k n:=by cases n<;>rfl
def R4(n:Int)(k:Int→α):α:=match n with
 |.ofNat m=>rz m fun m=>k (.ofNat m)
 |.negSucc m=>rz m fun m=>k (.negSucc m)
theorem OY(n:Int)(k:Int→α):R4 n k=k n:=by cases n<;>simp[R4,xV]
def KY(b:Bool)(k:Bool→α):α:=match b with
 |true=>k true
 |false=>k false
theorem KZ(b:Bool)(k:Bool→α):KY b k=k b:=by cases b<;>rfl
def fS(v:AV)(k:AV→α):α:=match v with
 |.bool b=>KY b fun b=>k (.bool b)
 |.int kd n=>R4 n fun n=>k (.int kd n)
 |.ptr b o=>rz b fun b=>rz o fun o=>k (.ptr b o)
 |.sl b o l c op=>rz b fun b=>rz o fun o=>rz l fun l=>rz c fun c=>KY op fun op=>k (.sl b o l c op)
 |.map b=>rz b fun b=>k (.map b)
 |.yield b=>rz b fun b=>k (.yield b)
 |.str s=>k (.str s)
 |.kI=>k .kI
 |.aD=>k .aD
 |.gO a=>k (.gO a)
 |.rest b o j=>rz b fun b=>rz o fun o=>rz j fun j=>k (.rest b o j)
 |.kR=>k .kR
 |.func a b c=>k (.func a b c)
 |.kH=>k .kH
 |.iface t v=>k (.iface t v)
 |.kr=>k .kr
 |.agg cs=>k (.agg cs)
 |.cQ cs=>k (.cQ cs)
 |.fz f l=>k (.fz f l)
 |.fp cs o=>k (.fp cs o)
theorem QK(v:AV)(k:AV→α):fS v k=k v:=by cases v<;>simp[fS,xV,OY,KZ]
def fL:List AV→(List AV→α)→α
 |[],k=>k []
 |v::vs,k=>fS v fun v=>fL vs fun vs=>k (v::vs)
theorem Hl:∀(l:List AV) (k:List AV→α),fL l k=k l
 |[],k=>rfl
 |v::vs,k=>by simp[fL,QK,Hl vs]
def fB:List UInt8→(List UInt8→α)→α
 |[],k=>k []
 |v::vs,k=>fB vs fun vs=>k (v::vs)
theorem QJ:∀(l:List UInt8) (k:List UInt8→α),fB l k=k l
 |[],k=>rfl
 |v::vs,k=>by simp[fB,QJ vs]
def fV(v:AV)(k:AV→α):α:=match v with
 |.agg cs=>fL cs fun cs=>k (.agg cs)
 |.cQ cs=>fL cs fun cs=>k (.cQ cs)
 |.iface t v=>fS v fun v=>k (.iface t v)
 |.str s=>fB s fun s=>k (.str s)
 |.func f a b=>fL a fun a=>fL b fun b=>k (.func f a b)
 |v=>fS v k
theorem Bl(v:AV)(k:AV→α):fV v k=k v:=by cases v<;>simp[fV,QK,Hl,QJ]
def AK{β:Type}(x:Option β):Nat→Tr β→Nat→(Tr β→α)→α
 |0,t,_,k=>k t
 |f+1,.nil,n,k=>cond (Nat.beq n 0) (k (.node .nil x .nil))
   (cond (Nat.beq (n%2) 1) (AK x f .nil (n/2) fun l=>k (.node l none .nil)) (AK x f .nil (n/2-1) fun r=>k (.node .nil none r)))
 |f+1,.node l v r,n,k=>cond (Nat.beq n 0) (k (.node l x r))
   (cond (Nat.beq (n%2) 1) (AK x f l (n/2) fun l=>k (.node l v r)) (AK x f r (n/2-1) fun r=>k (.node l v r)))
theorem vB{β:Type}(x:Option β):∀(f:Nat) (t:Tr β) (n:Nat) (k:Tr β→α),AK x f t n k=k (Tr.put x f t n)
 |0,t,n,k=>rfl
 |f+1,.nil,n,k=>by
  simp only[AK,Tr.put];cases Nat.beq n 0
  ·cases Nat.beq (n%2) 1<;>simp[vB x f,Tr.left,Tr.right,Tr.val]
  ·rfl
 |f+1,.node l v r,n,k=>by
  simp only[AK,Tr.put];cases Nat.beq n 0
  ·cases Nat.beq (n%2) 1<;>simp[vB x f,Tr.left,Tr.right,Tr.val]
  ·rfl
end
def G6{α:Type}:List AV→Nat→Env→(Env→α)→α
 |[],_,e,k=>k e
 |v::vs,i,e,k=>AK (some v) (i+1) e i fun e=>G6 vs (i+1) e k
theorem Dq{α:Type}:∀(l:List AV) (i:Nat) (e:Env) (k:Env→α),G6 l i e k=k (Env.args l i e)
 |[],i,e,k=>rfl
 |v::vs,i,e,k=>by simp[G6,vB,Dq vs,Env.args,Tr.set]
def mJ{α:Type}(n:Nat)(args:List AV)(k:Env→α):α:=G6 args 0 (Tr.full (Nat.log2 n+1)) k
theorem lI{α:Type}(n:Nat)(args:List AV)(k:Env→α):mJ n args k=k (Env.start n args):=Dq _ _ _ _
def fC{α:Type}(v:AV)(k:AV→α):α:=match v with
 |.bool b=>k (.bool b)
 |.int kd n=>k (.int kd n)
 |.ptr b o=>k (.ptr b o)
 |.sl b o l c op=>k (.sl b o l c op)
 |.map b=>k (.map b)
 |.yield b=>k (.yield b)
 |.str s=>k (.str s)
 |.kI=>k .kI
 |.aD=>k .aD
 |.gO a=>k (.gO a)
 |.rest b o j=>k (.rest b o j)
 |.kR=>k .kR
 |.func a b c=>k (.func a b c)
 |.kH=>k .kH
 |.iface t v=>k (.iface t v)
 |.kr=>k .kr
 |.agg cs=>k (.agg cs)
 |.cQ cs=>k (.cQ cs)
 |.fz f l=>k (.fz f l)
 |.fp cs o=>k (.fp cs o)
theorem DP{α:Type}(v:AV)(k:AV→α):fC v k=k v:=by cases v<;>rfl
def EN{α β:Type}(t:Tr β)(n:Nat)(x:β)(k:Tr β→α):α:=AK (some x) (n+1) t n k
theorem vI{α β:Type}(t:Tr β)(n:Nat)(x:β)(k:Tr β→α):EN t n x k=k (t.set n x):=vB _ _ _ _ _
def ju{α:Type}(e:Env)(d:Option Nat)(v:AV)(k:Env→α):α:=match d with
 |some d=>EN e d v k
 |none=>k e
theorem jf{α:Type}(e:Env)(d:Option Nat)(v:AV)(k:Env→α):ju e d v k=k (e.put d v):=by
 cases d<;>simp[ju,Env.put,vI]
def newF{α:Type}(h:Heap)(x:dm)(k:Heap→α):α:=
 match x with
 |.cells vs wr es=>fL vs fun vs=>EN h.m h.next (.cells vs wr es) fun m=>rz (h.next+1) fun n=>k ⟨n,m⟩
 |x=>EN h.m h.next x fun m=>rz (h.next+1) fun n=>k ⟨n,m⟩
theorem sW{α:Type}(h:Heap)(x:dm)(k:Heap→α):newF h x k=k (h.new x):=by
 cases x<;>simp[newF,Hl,vI,xV,Heap.new]
def nF{α:Type}(h:Heap)(b:Nat)(x:dm)(k:Heap→α):α:=
 match x with
 |.cells vs wr es=>fL vs fun vs=>EN h.m b (.cells vs wr es) fun m=>k ⟨h.next,m⟩
 |x=>EN h.m b x fun m=>k ⟨h.next,m⟩
theorem lZ{α:Type}(h:Heap)(b:Nat)(x:dm)(k:Heap→α):nF h b x k=k (h.set b x):=by
 cases x<;>simp[nF,Hl,vI,Heap.set]
def OH{α:Type}(h:Heap)(b:Nat)(k:Heap→α):α:=AK none (b+1) h.m b fun m=>k ⟨h.next,m⟩
theorem Hj{α:Type}(h:Heap)(b:Nat)(k:Heap→α):OH h b k=k (h.del b):=by
 simp[OH,vB,Heap.del,Tr.del]
def uH(h:Heap)(b o:Nat)(xs:List AV)(k:Heap→Bool):Bool:=
 match h.get b with
 |some (.cells vs true es)=>cond (Nat.ble (o+xs.length) vs.length&&bx xs) (nF h b (.cells (Heap.splice vs o xs) true es) k) false
 |_=>false
theorem tA(h:Heap)(b o:Nat)(xs:List AV)(k:Heap→Bool):uH h b o xs k=match h.dU b o xs with|some h=>k h|none=>false:=by
 unfold uH Heap.dU;cases hg:h.get b with
 |none=>rfl
 |some x=>
  cases x with
  |cells vs wr es=>
   cases wr with
   |true=>simp only[];cases(Nat.ble (o+xs.length) vs.length&&bx xs)<;>simp[lZ]
   |false=>rfl
  |_=>rfl
def U6(o:Al)(args:List AV)(h:Heap)(k:AV→Heap→Bool):Bool:=
 match o,args with
 |.store n,[.ptr b o,v]=>cond (Nat.beq v.cells.length n) (uH h b o v.cells fun h=>k .undef h) false
 |.append size bytes,[s,x]=>match aY size h x with
  |none=>false
  |some (n,new)=>cond (bx new) (match s with
   |.aD=>cond (Nat.beq n 0) (k .aD h)
     (cond (Nat.ble (n*bytes) 140737488355328&&Nat.ble n 9223372036854775807) (newF h (.cells new true size) fun h1=>k (.sl h.next 0 n n true) h1) false)
   |.sl b o len cap kU=>cond (Nat.beq n 0&&Nat.ble len cap) (k (.sl b o len cap kU) h) (cond (Nat.ble (len+n) cap)
     (uH h b (o+len*size) new fun h=>k (.sl b o (len+n) cap kU) h)
     (cond (Nat.ble ((len+n)*bytes) 140737488355328&&Nat.ble (len+n) 9223372036854775807)
      (match h.get b,h.bn b o (len*size) with
      |some (.cells vs wr es),some old=>cond kU
        (cond (wr&&Nat.beq vs.length (o+len*size)&&Nat.beq cap len&&Nat.beq es size)
         (OH h b fun h2=>newF h2 (.cells (old++new) true size) fun h1=>k (.sl h.next 0 (len+n) (len+n) true) h1) false)
        (newF h (.cells (old++new) true size) fun h1=>k (.sl h.next 0 (len+n) (len+n) true) h1)
      |_,_=>false) false))
   |_=>false) false
 |.copy size,[d,x]=>match d,aY size h x with
  |.aD,some _=>k (.int .i64 0) h
  |.sl b o len _ _,some (n,new)=>uH h b o (new.take (min n len*size)) fun h=>k (.int .i64 (min n len)) h
  |_,_=>false
 |.clear zs,[d]=>match d with
  |.aD=>k .undef h
  |.sl b o len _ _=>uH h b o (ej zs len) fun h=>k .undef h
  |_=>false
 |.ins,[.map b,kv,v]=>match h.get b with
  |some (.map es bs c)=>match findKey kv es with
   |some r=>nF h b (.map (putKey kv v es) (qI r bs c) (yz r c)) fun h=>k .undef h
   |none=>false
  |_=>false
 |.range,[.map b]=>match h.get b with
  |some (.map _ _ c)=>newF h (.iter b c [] c) fun h1=>k (.ptr h.next 0) h1
  |_=>false
 |.next,[.ptr it 0]=>match h.get it with
  |some (.iter m _ seen last)=>match h.get m with
   |some (.map _ bs _)=>cond (rK seen last bs&&(qN seen bs).isEmpty) (OH h it fun h1=>k (.cQ [.bool false]) h1) false
   |_=>false
  |_=>false
 |.Me,[.map b,kv]=>match h.get b with
  |some (.map es bs c)=>match findKey kv es with
   |some _=>nF h b (.map (delKey kv es) (oq kv es bs) c) fun h=>k (.cQ []) h
   |none=>false
  |_=>false
 |_,_=>false
theorem IL{o:Al}{args:List AV}{h:Heap}{k:AV→Heap→Bool}(hh:U6 o args h k=true):∃v h1,eI o args h=some (v,h1)∧k v h1=true:=by
 unfold U6 at hh;split at hh
 ·rename_i n b o v;simp only[eI];cases hb:Nat.beq v.cells.length n with
  |false=>simp[hb] at hh
  |true=>
   simp only[hb,cond_true,tA] at hh⊢;cases hs:h.dU b o v.cells with
   |none=>simp[hs] at hh
   |some h1=>rw[hs] at hh;exact⟨.undef,h1,rfl,hh⟩
 ·rename_i size bytes s x;simp only[eI];cases hsc:aY size h x with
  |none=>simp[hsc] at hh
  |some p=>
   obtain⟨n,new⟩:=p;simp only[hsc] at hh⊢;cases hf:bx new with
   |false=>simp[hf] at hh
   |true=>
    simp only[hf,cond_true] at hh⊢;split at hh
    ·cases h0:Nat.beq n 0 with
     |true=>rw[h0] at hh;exact⟨_,_,rfl,hh⟩
     |false=>
      rw[h0] at hh;simp only[cond_false,sW] at hh⊢;cases hc:(Nat.ble (n*bytes) 140737488355328&&Nat.ble n 9223372036854775807) with
      |false=>simp[hc] at hh
      |true=>rw[hc] at hh;exact⟨_,_,rfl,hh⟩
    ·rename_i b o len cap kU;cases BC:(Nat.beq n 0&&Nat.ble len cap) with
     |true=>simp only[BC,cond_true] at hh⊢;exact⟨_,_,rfl,hh⟩
     |false=>
     simp only[BC,cond_false] at hh⊢;cases hle:Nat.ble (len+n) cap with
     |true=>
      simp only[hle,cond_true,tA] at hh⊢;cases hs:h.dU b (o+len*size) new with
      |none=>simp[hs] at hh
      |some h1=>rw[hs] at hh;exact⟨_,_,rfl,hh⟩
     |false=>
      simp only[hle,cond_false] at hh⊢;cases hc:(Nat.ble ((len+n)*bytes) 140737488355328&&Nat.ble (len+n) 9223372036854775807) with
      |false=>simp[hc] at hh
      |true=>
       simp only[hc,cond_true] at hh⊢;split at hh
       ·rename_i vs wr es old hg hl;rw[hg,hl];simp only;cases kU with
        |false=>simp only[cond_false,sW] at hh⊢;exact⟨_,_,rfl,hh⟩
        |true=>
         simp only[cond_true] at hh⊢;cases hw:(wr&&Nat.beq vs.length (o+len*size)&&Nat.beq cap len&&Nat.beq es size) with
         |false=>simp[hw] at hh
         |true=>
          simp only[hw,cond_true,Hj,sW] at hh⊢;exact⟨_,_,rfl,hh⟩
       ·simp at hh
    ·simp at hh
 ·rename_i size d x;simp only[eI];split at hh
  ·rename_i q hq;rw[hq];exact⟨_,_,rfl,hh⟩
  ·rename_i b o len cap kU n new hq;rw[hq];simp only[tA] at hh⊢;cases hs:h.dU b o (new.take (min n len*size)) with
   |none=>simp[hs] at hh
   |some h1=>rw[hs] at hh;exact⟨_,_,rfl,hh⟩
  ·simp at hh
 ·rename_i zs d;simp only[eI];split at hh
  ·exact⟨_,_,rfl,hh⟩
  ·rename_i b o len cap kU;simp only[tA] at hh⊢;cases hs:h.dU b o (ej zs len) with
   |none=>simp[hs] at hh
   |some h1=>rw[hs] at hh;exact⟨_,_,rfl,hh⟩
  ·simp at hh
 ·rename_i b kv v;simp only[eI];split at hh
  ·rename_i es bs c hg;rw[hg];split at hh
   ·rename_i r hr;simp only[hr,lZ] at hh⊢;exact⟨_,_,rfl,hh⟩
   ·simp at hh
  ·simp at hh
 ·rename_i b;simp only[eI];split at hh
  ·rename_i es bs c hg;rw[hg];simp only[sW] at hh⊢;exact⟨_,_,rfl,hh⟩
  ·simp at hh
 ·rename_i it;simp only[eI];split at hh
  ·rename_i m since seen last hg;rw[hg];simp only;split at hh
   ·rename_i es bs c hm;rw[hm];simp only;cases hc:(rK seen last bs&&(qN seen bs).isEmpty) with
    |false=>simp[hc] at hh
    |true=>
     simp only[hc,cond_true,Hj] at hh⊢;exact⟨_,_,rfl,hh⟩
   ·simp at hh
  ·simp at hh
 ·rename_i b kv;simp only[eI];split at hh
  ·rename_i es bs c hg;rw[hg];split at hh
   ·rename_i r hr;simp only[hr,lZ] at hh⊢;exact⟨_,_,rfl,hh⟩
   ·simp at hh
  ·simp at hh
 ·simp at hh
end Ads
end Go.Proofs.Ytepdklcpagielaa
set_option linter.unusedSimpArgs false
set_option linter.unusedVariables false
namespace Go.Proofs.Ytepdklcpagielaa
namespace Ads
theorem vU{α:Type}{c:Bool}{x:α}{y:α}(h:cond c (some x) none=some y):x=y:=by
 cases c with
 |false=>simp at h
 |true=>simpa using h
def LK(h h':Heap):Prop:=h.next≤h'.next∧∀L st cF e ps a b,L<h.next→h.get L=some (.loop st cF e ps a b)→∃st' mT,h'.get L=some (.loop st' mT e ps a b)
theorem LK.refl(h:Heap):LK h h:=⟨Nat.le_refl _,fun L st cF e ps a b _ hg=>⟨st,cF,hg⟩⟩
theorem LK.trans{h h1 h2:Heap}(x:LK h h1)(y:LK h1 h2):LK h h2:=by
 refine⟨Nat.le_trans x.1 y.1,fun L st cF e ps a b hL hg=>?_⟩;obtain⟨st',mT,hg'⟩:=x.2 L st cF e ps a b hL hg;exact y.2 L st' mT e ps a b (Nat.lt_of_lt_of_le hL x.1) hg'
theorem LK.new(h:Heap)(x:dm):LK h (h.new x):=
 ⟨by simp,fun L st cF e ps a b hL hg=>⟨st,cF,by rw[Heap.cB,if_neg (by omega)];exact hg⟩⟩
theorem LK.set{h:Heap}{b:Nat}{x y:dm}(hb:h.get b=some x)(hx:∀st cF e ps a c,x≠.loop st cF e ps a c):LK h (h.set b y):=by
 refine⟨Nat.le_refl _,fun L st cF e ps a c hL hg=>⟨st,cF,?_⟩⟩;rw[Heap.bP,if_neg]
 ·exact hg
 ·rintro rfl;rw[hb] at hg;cases hg
  exact hx _ _ _ _ _ _ rfl
theorem LK.del{h:Heap}{b:Nat}{x:dm}(hb:h.get b=some x)(hx:∀st cF e ps a c,x≠.loop st cF e ps a c):LK h (h.del b):=by
 refine⟨Nat.le_refl _,fun L st cF e ps a c hL hg=>⟨st,cF,?_⟩⟩;rw[Heap.dn,if_neg]
 ·exact hg
 ·rintro rfl;rw[hb] at hg;cases hg
  exact hx _ _ _ _ _ _ rfl
theorem LK.store{h h':Heap}{b o:Nat}{xs:List AV}(hs:h.dU b o xs=some h'):LK h h':=by
 unfold Heap.dU at hs;split at hs
 ·rename_i vs es hg;cases hc:(Nat.ble (o+xs.length) vs.length&&bx xs) with
  |false=>simp[hc] at hs
  |true=>
   simp only[hc,cond_true,Option.some.injEq] at hs;subst hs;exact LK.set hg (by simp)
 ·simp at hs
theorem LK.eff{o:Al}{args:List AV}{h h':Heap}{v:AV}(he:eI o args h=some (v,h')):LK h h':=by
 unfold eI at he;split at he
 ·rename_i n b o v;cases hb:Nat.beq v.cells.length n with
  |false=>simp[hb] at he
  |true=>
   simp only[hb,cond_true,Option.map_eq_some_iff,Prod.mk.injEq] at he;obtain⟨h1,hs,_,rfl⟩:=he;exact LK.store hs
 ·rename_i size bytes s x;split at he
  ·simp at he
  ·rename_i n new hsc;cases hf:bx new with
   |false=>simp[hf] at he
   |true=>
    simp only[hf,cond_true] at he;split at he
    ·cases h0:Nat.beq n 0 with
     |true=>
      simp only[h0,cond_true,Option.some.injEq,Prod.mk.injEq] at he;obtain⟨_,rfl⟩:=he;exact LK.refl _
     |false=>
      simp only[h0,cond_false] at he;cases hc:(Nat.ble (n*bytes) 140737488355328&&Nat.ble n 9223372036854775807) with
      |false=>simp[hc] at he
      |true=>
       simp only[hc,cond_true,Option.some.injEq,Prod.mk.injEq] at he;obtain⟨_,rfl⟩:=he;exact LK.new _ _
    ·rename_i b o len cap kU;cases BC:(Nat.beq n 0&&Nat.ble len cap) with
     |true=>
      simp only[BC,cond_true,Option.some.injEq,Prod.mk.injEq] at he;obtain⟨_,rfl⟩:=he;exact LK.refl _
     |false=>
     simp only[BC,cond_false] at he;cases hle:Nat.ble (len+n) cap with
     |true=>
      simp only[hle,cond_true,Option.map_eq_some_iff,Prod.mk.injEq] at he;obtain⟨h1,hs,_,rfl⟩:=he;exact LK.store hs
     |false=>
      simp only[hle,cond_false] at he;cases hc:(Nat.ble ((len+n)*bytes) 140737488355328&&Nat.ble (len+n) 9223372036854775807) with
      |false=>simp[hc] at he
      |true=>
       simp only[hc,cond_true] at he;split at he
       ·rename_i vs wr es old hg hl;cases kU with
        |false=>
         simp only[cond_false,Option.some.injEq,Prod.mk.injEq] at he;obtain⟨_,rfl⟩:=he;exact LK.new _ _
        |true=>
         simp only[cond_true] at he;cases hw:(wr&&Nat.beq vs.length (o+len*size)&&Nat.beq cap len&&Nat.beq es size) with
         |false=>simp[hw] at he
         |true=>
          simp only[hw,cond_true,Option.some.injEq,Prod.mk.injEq] at he;obtain⟨_,rfl⟩:=he;exact(LK.del hg (by simp)).trans (LK.new _ _)
       ·simp at he
    ·cases h0:Nat.beq n 0 with
     |true=>
      simp only[h0,cond_true,Option.some.injEq,Prod.mk.injEq] at he;obtain⟨_,rfl⟩:=he;exact LK.refl _
     |false=>
      simp only[h0,cond_false] at he;cases hc:(Nat.ble (n*bytes) 140737488355328&&Nat.ble n 9223372036854775807) with
      |false=>simp[hc] at he
      |true=>
       simp only[hc,cond_true,Option.some.injEq,Prod.mk.injEq] at he;obtain⟨_,rfl⟩:=he;exact LK.new _ _
    ·simp at he
 ·rename_i size d x;split at he
  ·simp only[Option.some.injEq,Prod.mk.injEq] at he;obtain⟨_,rfl⟩:=he;exact LK.refl _
  ·simp only[Option.some.injEq,Prod.mk.injEq] at he;obtain⟨_,rfl⟩:=he;exact LK.refl _
  ·simp only[Option.map_eq_some_iff,Prod.mk.injEq] at he;obtain⟨h1,hs,_,rfl⟩:=he;exact LK.store hs
  ·simp at he
 ·rename_i jm d;split at he
  ·simp only[Option.some.injEq,Prod.mk.injEq] at he;obtain⟨_,rfl⟩:=he;exact LK.refl _
  ·simp only[Option.map_eq_some_iff,Prod.mk.injEq] at he;obtain⟨h1,hs,_,rfl⟩:=he;exact LK.store hs
  ·simp at he
 ·split at he
  ·rename_i hg;split at he
   ·simp only[Option.some.injEq,Prod.mk.injEq] at he;obtain⟨_,rfl⟩:=he;exact LK.set hg (by simp)
   ·simp at he
  ·simp at he
 ·split at he
  ·simp only[Option.some.injEq,Prod.mk.injEq] at he;obtain⟨_,rfl⟩:=he;exact LK.new _ _
  ·simp at he
 ·split at he
  ·rename_i hg;split at he
   ·obtain⟨_,rfl⟩:=Prod.mk.inj (vU he);exact LK.del hg (by simp)
   ·simp at he
  ·simp at he
 ·split at he
  ·rename_i hg;split at he
   ·simp only[Option.some.injEq,Prod.mk.injEq] at he;obtain⟨_,rfl⟩:=he;exact LK.set hg (by simp)
   ·simp at he
  ·simp at he
 ·simp only[Option.some.injEq,Prod.mk.injEq] at he;obtain⟨_,rfl⟩:=he;exact LK.new _ _
 ·simp at he
def Task.heap:Task→Heap
 |.code _ _ _ h=>h
 |.ops _ _ _ h=>h
 |.op _ _ _ h=>h
 |.dw _ _ h=>h
 |.call _ _ h=>h
 |.any _ _ _ h=>h
def j8.heap:j8→Heap
 |.post _=>⟨0,.nil⟩
 |.code _ _ h=>h
 |.ops _ _ h=>h
 |.val _ h=>h
 |.kP _ h=>h
theorem LK.aaJ{o:Al}{args:List AV}{h h':Heap}{v:AV}(he:eK o args h=some (v,h')):LK h h':=by
 unfold eK at he;split at he
 ·split at he
  ·simp at he
  ·split at he
   ·rename_i hg _;have he:=vU he;cases he
    exact(LK.set hg (by simp)).trans (LK.new _ _)
   ·simp at he
 ·simp at he
theorem LK.fJ{h g g':Heap}(x:LK g g')(s:oW g h):LK h (pL h g g'):=by
 refine⟨by rw[←s.1];exact x.1,fun L st cF e ps a b hL hg=>?_⟩;have cS:(pL h g g').get L=if(g.get L).isSome=true∨h.next≤L then g'.get L else h.get L:=by
  show(vv h g g' g'.next).get L=_;rw[nj];have:L<g'.next:=by have:=x.1;have:=s.1;omega
  simp only[this,true_and]
 rw[cS];split
 ·rename_i hc;rcases hc with hc|hc
  ·cases hy:g.get L with
   |none=>rw[hy] at hc;simp at hc
   |some y=>
    have:=s.2 L y hy;rw[hg] at this;cases this
    exact x.2 L st cF e ps a b (by rw[s.1];exact hL) hy
  ·omega
 ·exact⟨st,cF,hg⟩
theorem LK.W2{h g u h2:Heap}(x:LK g u)(s:oW g h)(hn:h2.next=u.next)(h1:∀b,b<h.next→h2.get b=if(g.get b).isSome=true then u.get b else h.get b):LK h h2:=by
 refine⟨by rw[hn,←s.1];exact x.1,fun L st cF e ps a b hL hg=>?_⟩;rw[h1 L hL];split
 ·rename_i hc;cases hy:g.get L with
  |none=>rw[hy] at hc;simp at hc
  |some y=>
   have:=s.2 L y hy;rw[hg] at this;cases this
   exact x.2 L st cF e ps a b (by rw[s.1];exact hL) hy
 ·exact⟨st,cF,hg⟩
theorem LK.forget{h H h2:Heap}(x:LK h H)(s:oW h2 H)(ho:∀b,b<h.next→h.get b≠none→h2.get b=H.get b):LK h h2:=
 ⟨by rw[s.1];exact x.1,fun L st cF e ps a b hL hg=>by rw[ho L hL (by rw[hg];simp)];exact x.2 L st cF e ps a b hL hg⟩
def Fh(t:Task)(r:j8):Prop:=match r with
 |.post Q=>∃x e h',Q x e h'∧LK t.heap h'
 |r=>LK t.heap r.heap
theorem Fh.of{t t':Task}{r:j8}(x:LK t.heap t'.heap)(k:Fh t' r):Fh t r:=by
 cases r with
 |post Q=>obtain⟨a,b,c,q,l⟩:=k;exact⟨a,b,c,q,x.trans l⟩
 |_=>exact LK.trans x k
theorem uA{h:Heap}{it m since c:Nat}{seen:List Nat}{p:AV×Heap}:∀{bs:List Nat} {es:List (AV×AV)},p∈vr h it m since seen c bs es→∃x,p.2=h.set it x
 |[],es,hp=>by simp[vr] at hp
 |b::bs,[],hp=>by simp[vr] at hp
 |b::bs,(k,v)::es,hp=>by
  simp only[vr] at hp;cases hb:wq b seen with
  |true=>rw[hb] at hp;exact uA hp
  |false=>
   rw[hb] at hp;rcases List.mem_cons.1 hp with rfl|hp
   ·exact⟨_,rfl⟩
   ·exact uA hp
theorem LK.tV{args:List AV}{h:Heap}{cs:List (AV×Heap)}{p:AV×Heap}(hc:tV args h=some cs)(hp:p∈cs):LK h p.2:=by
 unfold Ads.tV at hc;split at hc
 ·split at hc
  ·rename_i hg;split at hc
   ·have:=vU hc;subst this;obtain⟨x,hx⟩:=uA hp;rw[hx];exact LK.set hg (by simp)
   ·simp at hc
  ·simp at hc
 ·simp at hc
theorem BS.WI{fs:Nat→Option aB}{ms:Nat→String→Option Nat}{t:Task}{r:j8}(h:BS fs ms t r):Fh t r:=by
 induction h with
 |skip=>exact LK.refl _
 |ops _ ih=>exact ih
 |bH _ _ ih=>exact ih
 |AL _ _ ih1 ih2=>exact Fh.of (t':=.code _ _ _ _) ih1 ih2
 |qS _ _ ih=>exact ih
 |cond _ _ ih=>exact Fh.of (LK.refl _) ih
 |pX _ ih=>exact ih
 |gE _ _ ih=>exact ih
 |nP _ _ ih1 ih2=>exact Fh.of (t':=.code _ _ _ _) ih1 ih2
 |dJ _ _ ih=>exact ih
 |exit=>exact LK.refl _
 |ret=>exact LK.refl _
 |@rangeFunc g ps a b e h f first aN v h2 st x hg hc hl hst hx ih=>
  have h1:=(LK.new h (.loop 0 none e ps a b)).trans ih;refine⟨h1.1,fun L st cF e ps a b hL hgl=>?_⟩;obtain⟨st',mT,hg'⟩:=h1.2 L st cF e ps a b hL hgl;have hL':L<h.next:=hL;exact⟨st',mT,by simp only[j8.heap];rw[Heap.bP,if_neg (by omega)];exact hg'⟩
 |nil=>exact LK.refl _
 |off _ _ ih=>exact ih
 |on _ _ _ ih1 ih2=>exact ih1.trans ih2
 |Fg _=>exact LK.refl _
 |PU _=>exact LK.new _ _
 |HI _=>exact LK.refl _
 |NB h=>exact LK.eff h
 |UB h=>exact LK.aaJ h
 |mF _ ih=>exact ih
 |me _ _ ih=>exact ih
 |dw _ ih=>exact ih
 |@yield L args h cF e ps a b e2 h2 cU x e4 h4 MX rU hg hlen Dg Az Nx hx Us ih1 ih2=>
  show LK h (h4.set L _);replace ih1:LK h h2:=ih1;replace ih2:LK (h2.set L (.loop 1 cU e ps a b)) h4:=ih2;refine⟨Nat.le_trans ih1.1 ih2.1,fun L0 st0 Mw e0 W6 a0 b0 Vo Nu=>?_⟩;by_cases hl:L0=L
  ·subst hl;rw[hg] at Nu;cases Nu
   exact⟨_,_,by rw[Heap.bP,if_pos rfl]⟩
  ·obtain⟨s1,p1,g1⟩:=ih1.2 L0 st0 Mw e0 W6 a0 b0 Vo Nu;obtain⟨s2,p2,g2⟩:=ih2.2 L0 s1 p1 e0 W6 a0 b0 (Nat.lt_of_lt_of_le Vo ih1.1) (by rw[Heap.bP,if_neg hl];exact g1);exact⟨s2,p2,by rw[Heap.bP,if_neg hl];exact g2⟩
 |call _ _ _ _ _ ih=>exact ih
 |fresh _ _ _ _=>exact LK.refl _
 |FL hs _ hn h1 _ ih=>exact ih.W2 hs hn h1
 |forget hs ho _ ih=>exact ih.forget hs ho
 |lz _ _ ih=>exact(LK.new _ _).trans ih
 |@sD L args h cF e ps a id A l1 i l2 e2 h2 cU e3 h3 tr e4 h4 v h5 hg hlen Dg ir Az Hy hsA hl hw ho ih1 LP ihl xw=>
  replace ih1:LK h h2:=ih1;have ihB:LK (h2.set L (.loop 1 cU e ps a (.block id (.seq A (.ops (l1++i::l2)))))) h5:=LK.trans LP (LK.trans ihl xw);refine⟨Nat.le_trans ih1.1 ihB.1,fun L0 st0 Mw e0 W6 a0 b0 Vo Nu=>?_⟩;obtain⟨s1,p1,g1⟩:=ih1.2 L0 st0 Mw e0 W6 a0 b0 Vo Nu;have hlt:L0<h2.next:=Nat.lt_of_lt_of_le Vo ih1.1;by_cases hl:L0=L
  ·subst hl;rw[Az] at g1;cases g1
   exact ihB.2 L0 _ _ _ _ _ _ hlt (by rw[Heap.bP,if_pos rfl])
  ·exact ihB.2 L0 s1 p1 e0 W6 a0 b0 hlt (by rw[Heap.bP,if_neg hl];exact g1)
 |Et _ _ _ ih1 ih2=>exact ih1.trans ih2
 |xg _ _ _ _ _ _ ih1 ih2=>exact ih1.trans ih2
 |qm=>exact LK.refl _
 |oD _ ih=>exact ih
 |ni _ _ ih=>exact ih
 |pY _ ih=>exact ih
 |w6 _ _ _ ih=>exact ih
 |uQ _ _ _ _ _ _ _ _ _ _ _ _ _ _ _ _ _ _ _ LP ih1 ih2 _ ih3=>exact((LP.trans ih1).trans ih2).trans ih3
 |Kk _ hq ih=>exact⟨_,_,_,hq,ih⟩
 |@Kl rd a b e h R Q _ hx _ ux pS=>
  obtain⟨x,e1,h1,hr,l⟩:=ux;cases hn:x.bZ with
  |false=>exact⟨x,e1,h1,hx _ _ _ hr hn,l⟩
  |true=>
   have:x=.normal:=by cases x<;>simp[AX.bZ] at hn;rfl
   subst this;obtain⟨x2,e2,h2,hq,l2⟩:=pS e1 h1 hr;exact⟨x2,e2,h2,hq,LK.trans l l2⟩
 |G3 _ _ ih=>exact ih
 |Dl _ hx ih=>
  obtain⟨x,e1,h1,hr,l⟩:=ih;exact⟨_,e1,h1,hx _ _ _ hr,l⟩
 |@G4 rd c e h R Q _ hx _ ux pS=>
  obtain⟨x,e1,h1,hr,l⟩:=ux;cases hn:x.bZ with
  |false=>exact⟨x,e1,h1,hx _ _ _ hr hn,l⟩
  |true=>
   have:x=.normal:=by cases x<;>simp[AX.bZ] at hn;rfl
   subst this;obtain⟨x2,e2,h2,hq,l2⟩:=pS e1 h1 hr;exact⟨x2,e2,h2,hq,LK.trans l l2⟩
 |@G5 rd dst args l e h cs Q T E H hc hne hl hq ihl=>
  cases cs with
  |nil=>exact absurd rfl hne
  |cons p cs=>exact⟨_,_,_,hq p List.mem_cons_self,LK.trans (LK.tV hc List.mem_cons_self) (ihl p List.mem_cons_self)⟩
 |Cj _ _ _ hQ ih=>
  obtain⟨x,e1,h1,hq,l⟩:=ih;obtain⟨_,_,s,ho⟩:=hQ x e1 h1 hq;exact LK.forget l s ho
theorem BS.keep{fs:Nat→Option aB}{ms:Nat→String→Option Nat}{t:Task}{r:j8}(h:BS fs ms t r)(hr:∀Q,r≠.post Q:=by simp):LK t.heap r.heap:=by
 have:=h.WI;cases r with
 |post Q=>exact absurd rfl (hr Q)
 |_=>exact this
theorem BS.DB{fs:Nat→Option aB}{ms:Nat→String→Option Nat}{f:Nat}{args:List AV}{h:Heap}{r:j8}(hb:BS fs ms (.call f args h) r):(∃v h1,r=.val v h1)∨∃v h1,r=.kP v h1:=by
 cases hb with
 |call _ _ _ _ _=>exact .inl ⟨_,_,rfl⟩
 |fresh _ _ _=>exact .inl ⟨_,_,rfl⟩
 |FL _ _ _ _ _=>exact .inl ⟨_,_,rfl⟩
 |forget _ _ _=>exact .inl ⟨_,_,rfl⟩
 |w6 _ _ _=>exact .inr ⟨_,_,rfl⟩
 |Cj _ _ _ _=>exact .inl ⟨_,_,rfl⟩
 |uQ _ _ _ _ _ _ _ _ _ _ _ _ _ _ _ _ _ _ _=>exact .inl ⟨_,_,rfl⟩
end Ads
end Go.Proofs.Ytepdklcpagielaa
set_option linter.unusedSimpArgs false
set_option linter.unusedVariables false
namespace Go.Proofs.Ytepdklcpagielaa
namespace Ads
mutual
def AV.same:AV→AV→Bool
 |.bool a,.bool b=>a==b
 |.int k n,.int k' m=>cond (decide (k=k')) (decide (n=m)) false
 |.str s,.str t=>s==t
 |.ptr b o,.ptr b' o'=>Nat.beq b b'&&Nat.beq o o'
 |.kI,.kI=>true
 |.sl b o l c op,.sl b' o' l' c' op'=>Nat.beq b b'&&Nat.beq o o'&&Nat.beq l l'&&Nat.beq c c'&&op==op'
 |.aD,.aD=>true
 |.map b,.map b'=>Nat.beq b b'
 |.kR,.kR=>true
 |.func f a c,.func f' a' c'=>decide (f=f')&&zH a a'&&zH c c'
 |.kH,.kH=>true
 |.yield b,.yield b'=>Nat.beq b b'
 |.iface t v,.iface t' v'=>Nat.beq t t'&&v.same v'
 |.kr,.kr=>true
 |.agg cs,.agg cs'=>zH cs cs'
 |.cQ cs,.cQ cs'=>zH cs cs'
 |.rest b o k,.rest b' o' k'=>Nat.beq b b'&&Nat.beq o o'&&Nat.beq k k'
 |_,_=>false
def zH:List AV→List AV→Bool
 |[],[]=>true
 |v::vs,u::us=>v.same u&&zH vs us
 |_,_=>false
end
mutual
theorem AV.CT:∀{v u:AV},v.same u=true→v=u:=by
 intro v u h;cases v<;>cases u<;>simp only[AV.same,Bool.and_eq_true,beq_iff_eq,Bool.false_eq_true,decide_eq_true_eq] at h<;>
  first
  |rfl
  |(obtain rfl:=h;rfl)
  |(have:=Nat.eq_of_beq_eq_true h;subst this;rfl)
  |(have h1:=Nat.eq_of_beq_eq_true h.1;have h2:=Nat.eq_of_beq_eq_true h.2;subst h1 h2;rfl)
  |(obtain⟨⟨⟨⟨h1,h2⟩,h3⟩,h4⟩,h5⟩:=h;have:=Nat.eq_of_beq_eq_true h1;have:=Nat.eq_of_beq_eq_true h2;have:=Nat.eq_of_beq_eq_true h3;have:=Nat.eq_of_beq_eq_true h4;subst_vars;rfl)
  |(obtain⟨⟨h1,h2⟩,h3⟩:=h;have:=Nat.eq_of_beq_eq_true h1;have:=Nat.eq_of_beq_eq_true h2;have:=Nat.eq_of_beq_eq_true h3;subst_vars;rfl)
  |(rename_i k n k' m;by_cases hk:k=k'<;>simp[hk] at h;subst hk h;rfl)
  |(rw[vG h])
  |(obtain⟨⟨h1,h2⟩,h3⟩:=h;rw[h1,vG h2,vG h3])
  |(obtain⟨h1,h2⟩:=h;rw[Nat.eq_of_beq_eq_true h1,AV.CT h2])
theorem vG:∀{v u:List AV},zH v u=true→v=u:=by
 intro v u h;cases v<;>cases u<;>simp only[zH,Bool.and_eq_true,Bool.false_eq_true] at h
 ·rfl
 ·rw[AV.CT h.1,vG h.2]
end
def rY(u:Nat→Heap):List bK→List (List Nat)→List aQ→Bool
 |x::l,cs::win,m::tr=>cond (match x.op with
   |.r o=>cond m.on (cs.all fun c=>match rI o m.vals (u c) with|some v=>v.same m.v|none=>false) true
   |_=>true) (rY u l win tr) false
 |_,_,_=>true
theorem qu{u:Nat→Heap}:∀{l:List bK} {win:List (List Nat)} {tr:List aQ},rY u l win tr=true→cW u l win tr
 |[],_,_,_=>by simp[cW]
 |_::_,[],_,_=>by simp[cW]
 |_::_,_::_,[],_=>by simp[cW]
 |x::l,cs::win,m::tr,h=>by
  simp only[rY] at h;generalize hb:(match x.op with
   |.r o=>cond m.on (cs.all fun c=>match rI o m.vals (u c) with|some v=>v.same m.v|none=>false) true
   |_=>true)=b at h
  cases b with
  |false=>simp at h
  |true=>
   simp only[cond_true] at h;simp only[cW];refine⟨?_,qu h⟩;split
   ·rename_i o ho;intro dZ c hc;rw[ho] at hb;simp only[dZ,cond_true,List.all_eq_true] at hb;have:=hb c hc;split at this
    ·rename_i v hv;rw[hv,AV.CT this]
    ·simp at this
   ·trivial
def rL:List bK→Option (List bK×bK)
 |[]=>none
 |[i]=>some ([],i)
 |i::l=>match rL l with
  |some (l1,j)=>some (i::l1,j)
  |none=>none
theorem nN:∀{l l1:List bK} {i:bK},rL l=some (l1,i)→l=l1++[i]
 |[],l1,i,h=>by simp[rL] at h
 |[j],l1,i,h=>by simp only[rL,Option.some.injEq,Prod.mk.injEq] at h;obtain⟨rfl,rfl⟩:=h;rfl
 |j::k::l,l1,i,h=>by
  simp only[rL] at h;split at h
  ·rename_i l2 i2 h2;simp only[Option.some.injEq,Prod.mk.injEq] at h;obtain⟨rfl,rfl⟩:=h;rw[nN (l:=k::l) h2];rfl
  ·simp at h
def CX(c:AC):Option (AC×List bK×Option Nat×Nat×AC):=
 match c with
 |.seq A d=>match d with
  |.seq o rest=>match o with
   |.ops l=>match rL l with
    |some (l1,i)=>match i.op with
     |.bad=>match i with
      |⟨dst,none,.bad,[.c (.bool true),.t a,.t b,.t c]⟩=>cond (Nat.beq a b&&Nat.beq a c) (some (A,l1,dst,a,rest)) none
      |_=>none
     |_=>none
    |none=>none
   |_=>none
  |_=>none
 |_=>none
theorem JK{c A:AC}{l1:List bK}{dst:Option Nat}{a:Nat}{rest:AC}(h:CX c=some (A,l1,dst,a,rest)):c=.seq A (.seq (.ops (l1++[qJ dst (.t a)])) rest):=by
 unfold CX at h;split at h
 ·split at h
  ·split at h
   ·split at h
    ·rename_i hl;split at h
     ·split at h
      ·rename_i adR a2 b2 c2 _;cases hb:(Nat.beq a2 b2&&Nat.beq a2 c2) with
       |false=>rw[hb] at h;simp at h
       |true=>
        rw[hb] at h;simp only[cond_true,Option.some.injEq,Prod.mk.injEq] at h;obtain⟨rfl,rfl,rfl,rfl,rfl⟩:=h;simp only[Bool.and_eq_true] at hb;have h1:=Nat.eq_of_beq_eq_true hb.1;have h2:=Nat.eq_of_beq_eq_true hb.2;subst h1 h2;rw[nN hl];rfl
      ·simp at h
     ·simp at h
    ·simp at h
   ·simp at h
  ·simp at h
 ·simp at h
def GK(c:AC):Option (Nat×List bK×AC):=
 match c with
 |.seq (.ops (⟨some t,none,.bad,[.c (.bool false),.c (.bool false),.c (.bool false),.c (.bool false)]⟩::l2)) eE=>some (t,l2,eE)
 |_=>none
theorem BX{c:AC}{t:Nat}{l2:List bK}{eE:AC}(h:GK c=some (t,l2,eE)):c=.seq (.ops (zu t::l2)) eE:=by
 unfold GK at h;split at h
 ·simp only[Option.some.injEq,Prod.mk.injEq] at h;obtain⟨rfl,rfl,rfl⟩:=h;rfl
 ·simp at h
def Ga{α:Type}:List α→Bool
 |[]=>true
 |_=>false
def LR:AX→Bool
 |.exit _=>false
 |_=>true
abbrev Rec:=Task→(j8→Bool)→Bool
def Cq(ev:Rec)(rd:Bool)(l:List bK)(win:List (List Nat))(e:Env)(h:Heap)(k:j8→Bool):Bool:=match rL l with
 |some (l1,i)=>ev (.ops rd l1 e h) fun r=>match r with
  |.ops tr e1 h1=>cond (cz i e1) (cond (rY (cY l1 tr h1) l1 (win.take l1.length) tr&&nO l&&cC i.op) (ev (.op rd i.op (i.args.map e1.ev) h1) fun r=>match r with
   |.kP v h2=>k (.code (.panic v) e1 h2)
   |_=>false) false) false
  |_=>false
 |none=>false
def yG(ev:Rec)(a b:AC)(e:Env)(h:Heap)(k:j8→Bool):Bool:=match b with
 |.block _ (.seq A (.ops l))=>cond (bp a&&bp A) (ev (.code true A e h) fun r=>match r with
  |.code .normal e1 h1=>ev (.ops true l e1 h1) fun r=>match r with
   |.code (.panic v) _ h2=>k (.kP v h2)
   |_=>false
  |_=>false) false
 |_=>false
def KX(vals:List AV)(h:Heap)(k:j8→Bool):Bool:=match vals with
 |[.iface t x]=>k (.kP (.iface t x) h)
 |_=>false
def RZ(fs:Nat→Option aB)(ev:Rec)(d:AC×List bK×Option Nat×Nat×AC)(af:aB)(args:List AV)(h:Heap)(k:j8→Bool):Bool:=match d with
 |(A,l1,dst,a,rest)=>cond (Nat.ble args.length af.ntmps&&bp A) (mJ af.ntmps args fun e0=>ev (.code false A e0 h) fun r=>match r with
  |.code .normal e1 h1=>ev (.ops false l1 e1 h1) fun r=>match r with
   |.ops tr e2 h2=>match e2.ev (.t a) with
    |.func (.func g) first aN=>ev (.code false rest (e2.put dst .undef) h2) fun r=>match r with
     |.code x e3 h3=>cond (LR x) (match fs g with
      |some ag=>match GK ag.body with
       |some (t,l2,eE)=>cond (Nat.ble (first++aN).length ag.ntmps&&Ga ag.results&&bp eE&&mH l2)
        (ev (.ops false l2 ((Env.start ag.ntmps (first++aN)).put (some t) (oQ x)) h3) fun r=>match r with
        |.ops AP e4 h4=>ev (.code false eE e4 h4) fun r=>match r with
         |.code y e5 h5=>match y with
          |.normal|.ret=>match iu e3 h5 af.results with
           |some vs=>k (.val (dz vs) h5)
           |none=>false
          |_=>false
         |_=>false
        |_=>false) false
       |none=>false
      |none=>false) false
     |_=>false
    |_=>false
   |_=>false
  |_=>false) false
abbrev Ry:=Nat→List AV→Heap→Option (AV×Heap)
def Mn:Ry:=fun _ _ _=>none
def Ke(fs:Nat→Option aB)(ms:Nat→String→Option Nat)(zl:Ry):Prop:=∀f args h v h1,zl f args h=some (v,h1)→BS fs ms (.call f args h) (.val v h1)
theorem Mp{fs:Nat→Option aB}{ms:Nat→String→Option Nat}:Ke fs ms Mn:=fun f args h v h1 hh=>by simp[Mn] at hh
section
variable (fs:Nat→Option aB) (ms:Nat→String→Option Nat) (zl:Ry)
def ev:Nat→Task→(j8→Bool)→Bool
 |0,_,_=>false
 |n+1,t,k=>match t with
  |.code rd c e h=>match c with
   |.skip=>k (.code .normal e h)
   |.ops l=>ev n (.ops rd l e h) fun r=>match r with
    |.ops tr e' h'=>k (.code .normal e' h')
    |.code (.panic v) e1 h1=>k (.code (.panic v) e1 h1)
    |_=>false
   |.bH l win=>ev n (.ops rd l e h) fun r=>match r with
    |.ops tr e' h'=>cond (rY (cY l tr h') l win tr) (k (.code .normal e' h')) false
    |.code (.panic _) _ _=>Cq (ev n) rd l win e h k
    |_=>false
   |.seq a b=>ev n (.code rd a e h) fun r=>match r with
    |.code .normal e1 h1=>ev n (.code rd b e1 h1) k
    |.code x e1 h1=>k (.code x e1 h1)
    |_=>false
   |.cond c a b=>match e.ev c with
    |.bool t=>ev n (.code rd (cond t a b) e h) k
    |_=>false
   |.block id c=>ev n (.code rd c e h) fun r=>match r with
    |.code (.exit i) e1 h1=>cond (Nat.beq i id) (k (.code .normal e1 h1)) (k (.code (.exit i) e1 h1))
    |.code x e1 h1=>k (.code x e1 h1)
    |_=>false
   |.loop c=>ev n (.code rd c e h) fun r=>match r with
    |.code .normal e1 h1=>ev n (.code rd (.loop c) e1 h1) k
    |.code x e1 h1=>k (.code x e1 h1)
    |_=>false
   |.exit id=>k (.code (.exit id) e h)
   |.ret=>k (.code .ret e h)
   |.rangeFunc g ps a b=>match rd,e.ev g with
    |false,.func (.func f) first aN=>newF h (.loop 0 none e ps a b) fun h1=>ev n (.call f (first++(.yield h.next::aN)) h1) fun r=>match r with
     |.val v h2=>match h2.get h.next with
      |some (.loop st none _ _ _ _)=>cond (Nat.beq st 1) false (nF h2 h.next (.loop 3 none e ps a b) fun h3=>k (.code .normal e h3))
      |some (.loop st (some (.exit id)) _ _ _ _)=>cond (Nat.beq st 1) false (nF h2 h.next (.loop 3 (some (.exit id)) e ps a b) fun h3=>k (.code (.exit id) e h3))
      |some (.loop st (some .ret) _ _ _ _)=>cond (Nat.beq st 1) false (nF h2 h.next (.loop 3 (some .ret) e ps a b) fun h3=>k (.code .ret e h3))
      |_=>false
     |.kP v h2=>k (.code (.panic v) e h2)
     |_=>false
    |_,_=>false
   |.bad=>false
  |.ops rd l e h=>match l with
   |[]=>k (.ops [] e h)
   |i::l=>cond (cz i e)
     (ev n (.op rd i.op (i.args.map e.ev) h) fun r=>match r with
      |.val v h1=>ju e i.dst v fun e1=>ev n (.ops rd l e1 h1) fun r=>match r with
       |.ops tr e' h'=>k (.ops (⟨h,i.args.map e.ev,v,true⟩::tr) e' h')
       |.code (.panic v) e1 h2=>k (.code (.panic v) e1 h2)
       |_=>false
      |.kP v h2=>k (.code (.panic v) e h2)
      |_=>false)
     (ju e i.dst .undef fun e1=>ev n (.ops rd l e1 h) fun r=>match r with
      |.ops tr e' h'=>k (.ops (⟨h,i.args.map e.ev,.undef,false⟩::tr) e' h')
      |.code (.panic v) e1 h2=>k (.code (.panic v) e1 h2)
      |_=>false)
  |.op rd o vals h=>match o with
   |.p o=>match pI o vals with
    |some v=>fV v fun v=>k (.val v h)
    |none=>false
   |.a o=>match aI o vals with
    |some (x,f)=>fV (f h.next) fun v=>newF h x fun h1=>k (.val v h1)
    |none=>false
   |.r o=>match rI o vals h with
    |some v=>fV v fun v=>k (.val v h)
    |none=>false
   |.e o=>U6 o vals h fun v h1=>fV v fun v=>k (.val v h1)
   |.call=>match vals with
    |fv::args=>ev n (.dw fv args h) k
    |[]=>false
   |.invoke name=>match vals with
    |.iface t x::args=>match ms t name with
     |some f=>ev n (.call f (x::args) h) k
     |none=>false
    |_=>false
   |.panic=>KX vals h k
   |_=>false
  |.dw fv args h=>match fv with
   |.func (.func f) first aN=>ev n (.call f (first++(args++aN)) h) k
   |.yield L=>match h.get L with
    |some (.loop 0 cF e ps a b)=>cond (Nat.beq args.length ps.length&&Nat.ble (L+1) h.next)
     (ev n (.code true a (gL ps args e) h) fun r=>match r with
      |.code .normal e2 h2=>match h2.get L with
       |some (.loop 0 cU _ _ _ _)=>nF h2 L (.loop 1 cU e ps a b) fun h3=>ev n (.code true b e2 h3) fun r=>match r with
        |.code (.panic _) _ _=>yG (ev n) a b e2 h3 k
        |.code x e4 h4=>nF h4 L (.loop (cond x.bZ 0 2) (eJ x) e ps a b) fun h5=>k (.val (.bool x.bZ) h5)
        |_=>false
       |_=>false
      |_=>false) false
    |_=>false
   |_=>false
  |.call f args h=>match zl f args h with
   |some (v,h1)=>k (.val v h1)
   |none=>match fs f with
   |some af=>match CX af.body with
    |none=>cond (Nat.ble args.length af.ntmps) (mJ af.ntmps args fun e0=>ev n (.code false af.body e0 h) fun r=>match r with
     |.code x e h1=>match x with
      |.normal|.ret=>match iu e h1 af.results with
       |some vs=>fV (dz vs) fun v=>k (.val v h1)
       |none=>false
      |.panic v=>k (.kP v h1)
      |_=>false
     |_=>false) false
    |some d=>RZ fs (ev n) d af args h k
   |none=>false
  |.any ..=>false
end
section
variable {fs:Nat→Option aB} {ms:Nat→String→Option Nat} {zl:Ry}
theorem qo:∀{l:List bK} {rd:Bool} {e:Env} {h:Heap} {tr:List aQ} {e':Env} {h':Heap},mH l=true→BS fs ms (.ops rd l e h) (.ops tr e' h')→h'=h
 |[],rd,e,h,tr,e',h',_,hb=>by cases hb;rfl
 |i::l,rd,e,h,tr,e',h',hp,hb=>by
  simp only[mH,Bool.and_eq_true] at hp;cases hb with
  |off hw hl=>exact qo hp.2 hl
  |on hw ho hl=>
   obtain⟨d,gd,op,as⟩:=i;cases op<;>cases gd<;>simp at hp
   cases ho
   exact qo hp hl
def ZI(fs:Nat→Option aB)(ms:Nat→String→Option Nat)(t:Task)(r:j8):Prop:=match t with
 |.ops rd l e h=>match r with
  |.ops tr e' h'=>BS fs ms (.ops rd l e h) (.ops tr e' h')
  |.code (.panic v) e1 h2=>∃l1 i l2 tr h1,l=l1++i::l2∧BS fs ms (.ops rd l1 e h) (.ops tr e1 h1)∧cz i e1=true∧BS fs ms (.op rd i.op (i.args.map e1.ev) h1) (.kP v h2)
  |_=>False
 |t=>BS fs ms t r
theorem o6(ho:Ke fs ms zl):∀(n:Nat) (t:Task) (k:j8→Bool),ev fs ms zl n t k=true→∃r,ZI fs ms t r∧k r=true
 |0,t,k,h=>by simp[ev] at h
 |n+1,t,k,h=>by
  have xw:∀rd l e hp k,ev fs ms zl n (.ops rd l e hp) k=true→∃r,ZI fs ms (.ops rd l e hp) r∧k r=true:=fun rd l e hp k=>o6 ho n _ k;have od:∀rd c e hp k,ev fs ms zl n (.code rd c e hp) k=true→∃r,BS fs ms (.code rd c e hp) r∧k r=true:=fun rd c e hp k=>o6 ho n _ k;have Zk:∀rd o vals hp k,ev fs ms zl n (.op rd o vals hp) k=true→∃r,BS fs ms (.op rd o vals hp) r∧k r=true:=fun rd o vals hp k=>o6 ho n _ k;have ihv:∀fv args hp k,ev fs ms zl n (.dw fv args hp) k=true→∃r,BS fs ms (.dw fv args hp) r∧k r=true:=fun fv args hp k=>o6 ho n _ k;have Wu:∀f args hp k,ev fs ms zl n (.call f args hp) k=true→∃r,BS fs ms (.call f args hp) r∧k r=true:=fun f args hp k=>o6 ho n _ k;unfold ev at h;split at h
  ·rename_i rd c e hp;show∃r,BS fs ms (.code rd c e hp) r∧k r=true;split at h
   ·exact⟨_,.skip,h⟩
   ·obtain⟨r,hr,hk⟩:=xw _ _ _ _ _ h;split at hk
    ·exact⟨_,.ops hr,hk⟩
    ·obtain⟨l1,i,l2,tr,h1,rfl,g1,g2,g3⟩:=hr;exact⟨_,.Et g1 g2 g3,hk⟩
    ·simp at hk
   ·rename_i l win;obtain⟨r,hr,hk⟩:=xw _ _ _ _ _ h;split at hk
    ·rename_i tr e' h';cases hb:rY (cY l tr h') l win tr with
     |false=>simp[hb] at hk
     |true=>rw[hb] at hk;exact⟨_,.bH hr (qu hb),hk⟩
    ·unfold Cq at hk;split at hk
     ·rename_i l1 i hl;have:=nN hl;subst this;obtain⟨r2,Aj,hk2⟩:=xw _ _ _ _ _ hk;split at hk2
      ·rename_i tr e1 h1;cases hw:cz i e1 with
       |false=>rw[hw] at hk2;simp at hk2
       |true=>
        rw[hw] at hk2;simp only[cond_true] at hk2;cases hb:(rY (cY l1 tr h1) l1 (win.take l1.length) tr&&nO (l1++[i])&&cC i.op) with
        |false=>rw[hb] at hk2;simp at hk2
        |true=>
         rw[hb] at hk2;simp only[cond_true] at hk2;simp only[Bool.and_eq_true] at hb;obtain⟨r3,Rb,qQ⟩:=Zk _ _ _ _ _ hk2;split at qQ
         ·exact⟨_,.xg Aj (qu hb.1.1) hb.1.2 hb.2 hw Rb,qQ⟩
         ·simp at qQ
      ·simp at hk2
     ·simp at hk
    ·simp at hk
   ·obtain⟨r,hr,hk⟩:=od _ _ _ _ _ h;split at hk
    ·obtain⟨r',hr',hk'⟩:=od _ _ _ _ _ hk;exact⟨_,.AL hr hr',hk'⟩
    ·rename_i x e1 h1 hne;refine⟨_,.qS hr ?_,hk⟩;cases x<;>simp_all[AX.bZ]
    ·simp at hk
   ·split at h
    ·rename_i t ht;obtain⟨r,hr,hk⟩:=od _ _ _ _ _ h;exact⟨_,.cond ht hr,hk⟩
    ·simp at h
   ·rename_i id c;obtain⟨r,hr,hk⟩:=od _ _ _ _ _ h;split at hk
    ·rename_i i e1 h1;cases hb:Nat.beq i id with
     |true=>
      rw[hb] at hk;have:=Nat.eq_of_beq_eq_true hb;subst this;exact⟨_,.pX hr,hk⟩
     |false=>
      rw[hb] at hk;refine⟨_,.gE hr ?_,hk⟩;intro j hj hji;simp only[AX.exit.injEq] at hj;subst hj hji;simp at hb
    ·rename_i x e1 h1 hne;exact⟨_,.gE hr (fun i hi=>absurd hi (by intro hc;exact hne i hc)),hk⟩
    ·simp at hk
   ·obtain⟨r,hr,hk⟩:=od _ _ _ _ _ h;split at hk
    ·obtain⟨r',hr',hk'⟩:=od _ _ _ _ _ hk;exact⟨_,.nP hr hr',hk'⟩
    ·rename_i x e1 h1 hne;refine⟨_,.dJ hr ?_,hk⟩;cases x<;>simp_all[AX.bZ]
    ·simp at hk
   ·exact⟨_,.exit,h⟩
   ·exact⟨_,.ret,h⟩
   ·rename_i g ps a b;split at h
    ·rename_i f first aN hg
     rw[sW] at h;obtain⟨r,hr,hk⟩:=Wu _ _ _ _ h;split at hk
     ·rename_i v h2;have hkeep:=hr.keep.2 hp.next 0 none e ps a b (by simp[Task.heap]) (by simp[Task.heap,Heap.cB]);obtain⟨st',mT,cS⟩:=hkeep;simp only[j8.heap] at cS;rw[cS] at hk;have hst:∀{x:Bool},cond (Nat.beq st' 1) false x=true→st'≠1∧x=true:=by
       intro x hx;cases hb:Nat.beq st' 1 with
       |true=>rw[hb] at hx;simp at hx
       |false=>rw[hb] at hx;exact⟨by(rintro rfl;simp at hb),hx⟩
      split at hk
      ·rename_i heq;simp only[Option.some.injEq,dm.loop.injEq] at heq;obtain⟨rfl,rfl,_⟩:=heq;obtain⟨h1,rF⟩:=hst hk;rw[lZ] at rF;exact⟨_,.rangeFunc (x:=.normal) hg hr cS h1 (by simp),rF⟩
      ·rename_i heq;simp only[Option.some.injEq,dm.loop.injEq] at heq;obtain⟨rfl,rfl,_⟩:=heq;obtain⟨h1,rF⟩:=hst hk;rw[lZ] at rF;exact⟨_,.rangeFunc (x:=.exit _) hg hr cS h1 (by simp),rF⟩
      ·rename_i heq;simp only[Option.some.injEq,dm.loop.injEq] at heq;obtain⟨rfl,rfl,_⟩:=heq;obtain⟨h1,rF⟩:=hst hk;rw[lZ] at rF;exact⟨_,.rangeFunc (x:=.ret) hg hr cS h1 (by simp),rF⟩
      ·simp at hk
     ·exact⟨_,.lz hg hr,hk⟩
     ·simp at hk
    ·simp at h
   ·simp at h
  ·rename_i rd l e hp;show∃r,ZI fs ms (.ops rd l e hp) r∧k r=true;split at h
   ·exact⟨.ops [] e hp,(.nil:BS fs ms (.ops rd [] e hp) (.ops [] e hp)),h⟩
   ·rename_i i l;cases hw:cz i e with
    |true=>
     rw[hw] at h;obtain⟨r,hr,hk⟩:=Zk _ _ _ _ _ h;split at hk
     ·rw[jf] at hk;obtain⟨r',hr',hk'⟩:=xw _ _ _ _ _ hk;split at hk'
      ·rename_i tr e' h';exact⟨.ops _ e' h',(.on hw hr hr':BS fs ms (.ops rd (i::l) e hp) (.ops _ e' h')),hk'⟩
      ·rename_i v e1 h2;obtain⟨l1,j,l2,tr,h1,rfl,g1,g2,g3⟩:=hr';exact⟨.code (.panic v) e1 h2,⟨i::l1,j,l2,_,h1,rfl,.on hw hr g1,g2,g3⟩,hk'⟩
      ·simp at hk'
     ·rename_i v h2;exact⟨.code (.panic v) e h2,⟨[],i,l,[],hp,rfl,.nil,hw,hr⟩,hk⟩
     ·simp at hk
    |false=>
     rw[hw] at h;simp only[cond_false,jf] at h;obtain⟨r,hr,hk⟩:=xw _ _ _ _ _ h;split at hk
     ·rename_i tr e' h';exact⟨.ops _ e' h',(.off hw hr:BS fs ms (.ops rd (i::l) e hp) (.ops _ e' h')),hk⟩
     ·rename_i v e1 h2;obtain⟨l1,j,l2,tr,h1,rfl,g1,g2,g3⟩:=hr;exact⟨.code (.panic v) e1 h2,⟨i::l1,j,l2,_,h1,rfl,.off hw g1,g2,g3⟩,hk⟩
     ·simp at hk
  ·rename_i rd o vals hp;show∃r,BS fs ms (.op rd o vals hp) r∧k r=true;split at h
   ·split at h
    ·rename_i v hv;rw[Bl] at h;exact⟨_,.Fg hv,h⟩
    ·simp at h
   ·split at h
    ·rename_i x f hv;rw[Bl,sW] at h;exact⟨_,.PU hv,h⟩
    ·simp at h
   ·split at h
    ·rename_i v hv;rw[Bl] at h;exact⟨_,.HI hv,h⟩
    ·simp at h
   ·obtain⟨v,h1,hv,hk⟩:=IL h;rw[Bl] at hk;exact⟨_,.NB hv,hk⟩
   ·split at h
    ·obtain⟨r,hr,hk⟩:=ihv _ _ _ _ h;cases hr with
     |dw hc=>exact⟨_,.mF (.dw hc),hk⟩
     |pY hc=>exact⟨_,.oD (.pY hc),hk⟩
     |yield h1 h2 h3 h4 h5 h6 h7=>exact⟨_,.mF (.yield h1 h2 h3 h4 h5 h6 h7),hk⟩
     |sD h1 h2 h3 h4 h5 h6 h7 h8 h9 h10=>exact⟨_,.oD (.sD h1 h2 h3 h4 h5 h6 h7 h8 h9 h10),hk⟩
    ·simp at h
   ·split at h
    ·split at h
     ·rename_i f hf;obtain⟨r,hr,hk⟩:=Wu _ _ _ _ h;rcases hr.DB with⟨v,h1,rfl⟩|⟨v,h1,rfl⟩
      ·exact⟨_,.me hf hr,hk⟩
      ·exact⟨_,.ni hf hr,hk⟩
     ·simp at h
    ·simp at h
   ·unfold KX at h;split at h
    ·exact⟨_,.qm,h⟩
    ·simp at h
   ·simp at h
  ·rename_i fv args hp;show∃r,BS fs ms (.dw fv args hp) r∧k r=true;split at h
   ·obtain⟨r,hr,hk⟩:=Wu _ _ _ _ h;rcases hr.DB with⟨v,h1,rfl⟩|⟨v,h1,rfl⟩
    ·exact⟨_,.dw hr,hk⟩
    ·exact⟨_,.pY hr,hk⟩
   ·rename_i L;split at h
    ·rename_i cF e ps a b hg;cases hc:(Nat.beq args.length ps.length&&Nat.ble (L+1) hp.next) with
     |false=>rw[hc] at h;simp at h
     |true=>
      rw[hc] at h;simp only[cond_true] at h;simp only[Bool.and_eq_true] at hc;have hlen:=Nat.eq_of_beq_eq_true hc.1;have hL:L<hp.next:=Nat.le_of_ble_eq_true hc.2;obtain⟨r,hr,hk⟩:=od _ _ _ _ _ h;split at hk
      ·rename_i e2 h2;obtain⟨st',mT,cS⟩:=hr.keep.2 L 0 cF e ps a b hL hg;simp only[j8.heap] at cS;rw[cS] at hk;split at hk
       ·rename_i heq;simp only[Option.some.injEq,dm.loop.injEq] at heq;obtain⟨rfl,rfl,_⟩:=heq;rw[lZ] at hk;obtain⟨r',hr',hk'⟩:=od _ _ _ _ _ hk;have Sf:L<h2.next:=Nat.lt_of_lt_of_le hL hr.keep.1;split at hk'
        ·unfold yG at hk';split at hk'
         ·rename_i id A l hbx;cases hn:(bp a&&bp A) with
          |false=>rw[hn] at hk';simp at hk'
          |true=>
           rw[hn] at hk';simp only[cond_true] at hk';simp only[Bool.and_eq_true] at hn;obtain⟨rA,hrA,hkA⟩:=od _ _ _ _ _ hk';split at hkA
           ·obtain⟨rl,hrl,Q8⟩:=xw _ _ _ _ _ hkA;split at Q8
            ·obtain⟨l1,i,l2,tr,La,rfl,g1,g2,g3⟩:=hrl;exact⟨_,.sD hg hlen hr hn.1 cS hn.2 hrA g1 g2 g3,Q8⟩
            ·simp at Q8
           ·simp at hkA
         ·simp at hk'
        ·rename_i x e4 h4 hnp;obtain⟨MX,rU,VU⟩:=hr'.keep.2 L 1 mT e ps a b Sf (by simp[Task.heap,Heap.bP]);rw[lZ] at hk';exact⟨_,.yield hg hlen hr cS hr' (fun v hv=>hnp v hv) VU,hk'⟩
        ·simp at hk'
       ·simp at hk
      ·simp at hk
    ·simp at h
   ·simp at h
  ·rename_i f args hp;show∃r,BS fs ms (.call f args hp) r∧k r=true;split at h
   ·rename_i v h1 hor;exact⟨_,ho _ _ _ _ _ hor,h⟩
   split at h
   ·rename_i af Vr;split at h
    ·cases hl:Nat.ble args.length af.ntmps with
     |false=>rw[hl] at h;simp at h
     |true=>
      rw[hl] at h;simp only[cond_true,lI] at h;obtain⟨r,hr,hk⟩:=od _ _ _ _ _ h;split at hk
      ·split at hk
       ·split at hk
        ·rename_i vs hvs;rw[Bl] at hk;exact⟨_,.call Vr (Nat.le_of_ble_eq_true hl) hr (.inl rfl) hvs,hk⟩
        ·simp at hk
       ·split at hk
        ·rename_i vs hvs;rw[Bl] at hk;exact⟨_,.call Vr (Nat.le_of_ble_eq_true hl) hr (.inr rfl) hvs,hk⟩
        ·simp at hk
       ·exact⟨_,.w6 Vr (Nat.le_of_ble_eq_true hl) hr,hk⟩
       ·simp at hk
      ·simp at hk
    ·rename_i d hd;obtain⟨A,l1,dst,a,rest⟩:=d;have hbody:=JK hd;unfold RZ at h;simp only at h;cases hl:(Nat.ble args.length af.ntmps&&bp A) with
     |false=>rw[hl] at h;simp at h
     |true=>
      rw[hl] at h;simp only[cond_true,lI] at h;simp only[Bool.and_eq_true] at hl;obtain⟨r1,xX,AA⟩:=od _ _ _ _ _ h;split at AA
      ·obtain⟨r2,Aj,hk2⟩:=xw _ _ _ _ _ AA;split at hk2
       ·rename_i tr e2 h2;split at hk2
        ·rename_i g first aN De
         obtain⟨r3,Rb,qQ⟩:=od _ _ _ _ _ hk2;split at qQ
         ·rename_i x e3 h3;cases hx:LR x with
          |false=>rw[hx] at qQ;simp at qQ
          |true=>
           rw[hx] at qQ;simp only[cond_true] at qQ;split at qQ
           ·rename_i ag iC;split at qQ
            ·rename_i t l2 eE hsr;cases hc:(Nat.ble (first++aN).length ag.ntmps&&Ga ag.results&&bp eE&&mH l2) with
             |false=>rw[hc] at qQ;simp at qQ
             |true=>
              rw[hc] at qQ;simp only[cond_true] at qQ;simp only[Bool.and_eq_true] at hc;obtain⟨r4,Wh,Sx⟩:=xw _ _ _ _ _ qQ;split at Sx
              ·rename_i AP e4 h4;have hh:=qo hc.2 Wh;subst hh;obtain⟨r5,Ze,Cy⟩:=od _ _ _ _ _ Sx;have Wr:x=.normal∨x=.ret∨∃v,x=.panic v:=by
                cases x with
                |normal=>exact .inl rfl
                |ret=>exact .inr (.inl rfl)
                |panic v=>exact .inr (.inr ⟨v,rfl⟩)
                |exit id=>simp[LR] at hx
               have Pd:ag.results=[]:=by
                have:=hc.1.1.2;cases xO:ag.results with
                |nil=>rfl
                |cons _ _=>rw[xO] at this;simp[Ga] at this
               split at Cy
               ·rename_i y e5 h5;split at Cy
                ·split at Cy
                 ·rename_i vs hvs;exact⟨_,.uQ Vr (Nat.le_of_ble_eq_true hl.1) hbody xX hl.2 Aj De Rb Wr iC (Nat.le_of_ble_eq_true hc.1.1.1) (BX hsr) Pd hc.1.2 Wh hc.2 Ze (.inl rfl) hvs,Cy⟩
                 ·simp at Cy
                ·split at Cy
                 ·rename_i vs hvs;exact⟨_,.uQ Vr (Nat.le_of_ble_eq_true hl.1) hbody xX hl.2 Aj De Rb Wr iC (Nat.le_of_ble_eq_true hc.1.1.1) (BX hsr) Pd hc.1.2 Wh hc.2 Ze (.inr rfl) hvs,Cy⟩
                 ·simp at Cy
                ·simp at Cy
               ·simp at Cy
              ·simp at Sx
            ·simp at qQ
           ·simp at qQ
         ·simp at qQ
        ·simp at hk2
       ·simp at hk2
      ·simp at AA
   ·simp at h
  ·simp at h
end
end Ads
end Go.Proofs.Ytepdklcpagielaa
set_option linter.unusedSimpArgs false
set_option linter.unusedVariables false
namespace Go.Proofs.Ytepdklcpagielaa
namespace Ads
def YE(o:Uc)(args:List AV):Option (dm×(Nat→AV)):=
 match o with
 |.alloc jm=>match args with
  |[]=>some (.cells jm true 0,fun b=>.ptr b 0)
  |_=>none
 |.box=>l1 args fun v=>some (.cells v.cells true 0,fun b=>.ptr b 0)
 |o=>aI o args
theorem Fk(o:Uc)(args:List AV):YE o args=aI o args:=by
 cases o
 case alloc z=>cases args<;>rfl
 case box=>rcases args with _|⟨x,_|⟨y,r⟩⟩<;>rfl
 all_goals rfl
def rIF(o:E9)(args:List AV)(h:Heap):Option AV:=
 match o with
 |.bC=>l1 args fun x=>DK x fun b o=>h.bC b o
 |.bn n=>l1 args fun x=>DK x fun b o=>(h.bn b o n).map .agg
 |o=>rI o args h
theorem TA(o:E9)(args:List AV)(h:Heap):rIF o args h=rI o args h:=by
 cases o
 case bC=>rcases args with _|⟨x,_|⟨y,r⟩⟩<;>first|rfl|(cases x<;>rfl)
 case bn n=>rcases args with _|⟨x,_|⟨y,r⟩⟩<;>first|rfl|(cases x<;>rfl)
 all_goals rfl
def OV(n:Nat)(args:List AV)(h:Heap)(k:AV→Heap→Bool):Bool:=
 match args with
 |[x,v]=>match x with
  |.ptr b o=>cond (Nat.beq v.cells.length n) (uH h b o v.cells fun h=>k .undef h) false
  |_=>false
 |_=>false
def eIG(o:Al)(args:List AV)(h:Heap)(k:AV→Heap→Bool):Bool:=
 match o with
 |.store n=>OV n args h k
 |o=>U6 o args h k
theorem RP(o:Al)(args:List AV)(h:Heap)(k:AV→Heap→Bool):eIG o args h k=U6 o args h k:=by
 cases o
 case store n=>rcases args with _|⟨x,_|⟨y,_|⟨z,r⟩⟩⟩<;>first|rfl|(cases x<;>rfl)
 all_goals rfl
def ach(k:j8→Bool)(r:j8):Bool:=match r with
 |.ops tr e' h'=>k (.code .normal e' h')
 |.code (.panic v) e1 h1=>k (.code (.panic v) e1 h1)
 |_=>false
def WD(ev:Rec)(rd:Bool)(l:List bK)(win:List (List Nat))(e:Env)(h:Heap)(k:j8→Bool)(r:j8):Bool:=match r with
 |.ops tr e' h'=>cond (rY (cY l tr h') l win tr) (k (.code .normal e' h')) false
 |.code (.panic _) _ _=>Cq ev rd l win e h k
 |_=>false
def WG(ev:Rec)(rd:Bool)(b:AC)(k:j8→Bool)(r:j8):Bool:=match r with
 |.code .normal e1 h1=>ev (.code rd b e1 h1) k
 |.code x e1 h1=>k (.code x e1 h1)
 |_=>false
def Ta(id:Nat)(k:j8→Bool)(r:j8):Bool:=match r with
 |.code (.exit i) e1 h1=>cond (Nat.beq i id) (k (.code .normal e1 h1)) (k (.code (.exit i) e1 h1))
 |.code x e1 h1=>k (.code x e1 h1)
 |_=>false
def Tb(e:Env)(ps:List Nat)(a b:AC)(L:Nat)(k:j8→Bool)(r:j8):Bool:=match r with
 |.val v h2=>match h2.get L with
  |some (.loop st none _ _ _ _)=>cond (Nat.beq st 1) false (nF h2 L (.loop 3 none e ps a b) fun h3=>k (.code .normal e h3))
  |some (.loop st (some (.exit id)) _ _ _ _)=>cond (Nat.beq st 1) false (nF h2 L (.loop 3 (some (.exit id)) e ps a b) fun h3=>k (.code (.exit id) e h3))
  |some (.loop st (some .ret) _ _ _ _)=>cond (Nat.beq st 1) false (nF h2 L (.loop 3 (some .ret) e ps a b) fun h3=>k (.code .ret e h3))
  |_=>false
 |.kP v h2=>k (.code (.panic v) e h2)
 |_=>false
def OU(ev:Rec)(rd:Bool)(g:bV)(ps:List Nat)(a b:AC)(e:Env)(h:Heap)(k:j8→Bool):Bool:=match rd,e.ev g with
 |false,.func (.func f) first aN=>newF h (.loop 0 none e ps a b) fun h1=>ev (.call f (first++(.yield h.next::aN)) h1) (Tb e ps a b h.next k)
 |_,_=>false
def RY(ev:Rec)(rd:Bool)(v:AV)(a b:AC)(e:Env)(h:Heap)(k:j8→Bool):Bool:=match v with
 |.bool t=>ev (.code rd (cond t a b) e h) k
 |_=>false
def RX(ev:Rec)(rd:Bool)(c:AC)(e:Env)(h:Heap)(k:j8→Bool):Bool:=match c with
 |.skip=>k (.code .normal e h)
 |.ops l=>ev (.ops rd l e h) (ach k)
 |.bH l win=>ev (.ops rd l e h) (WD ev rd l win e h k)
 |.seq a b=>ev (.code rd a e h) (WG ev rd b k)
 |.cond c a b=>RY ev rd (e.ev c) a b e h k
 |.block id c=>ev (.code rd c e h) (Ta id k)
 |.loop c=>ev (.code rd c e h) (WG ev rd (.loop c) k)
 |.exit id=>k (.code (.exit id) e h)
 |.ret=>k (.code .ret e h)
 |.rangeFunc g ps a b=>OU ev rd g ps a b e h k
 |.bad=>false
def Ri(h:Heap)(vals:List AV)(v:AV)(on:Bool)(k:j8→Bool)(r:j8):Bool:=match r with
 |.ops tr e' h'=>k (.ops (⟨h,vals,v,on⟩::tr) e' h')
 |.code (.panic v) e1 h2=>k (.code (.panic v) e1 h2)
 |_=>false
def aci(ev:Rec)(rd:Bool)(i:bK)(l:List bK)(e:Env)(h:Heap)(k:j8→Bool)(r:j8):Bool:=match r with
 |.val v h1=>ju e i.dst v fun e1=>ev (.ops rd l e1 h1) (Ri h (i.args.map e.ev) v true k)
 |.kP v h2=>k (.code (.panic v) e h2)
 |_=>false
def Va(ev:Rec)(rd:Bool)(l:List bK)(e:Env)(h:Heap)(k:j8→Bool):Bool:=match l with
 |[]=>k (.ops [] e h)
 |i::l=>cond (cz i e) (ev (.op rd i.op (i.args.map e.ev) h) (aci ev rd i l e h k))
   (ju e i.dst .undef fun e1=>ev (.ops rd l e1 h) (Ri h (i.args.map e.ev) .undef false k))
def WH(h:Heap)(k:j8→Bool)(o:Option AV):Bool:=match o with
 |some v=>fV v fun v=>k (.val v h)
 |none=>false
def WE(h:Heap)(k:j8→Bool)(o:Option (dm×(Nat→AV))):Bool:=match o with
 |some (x,f)=>fV (f h.next) fun v=>newF h x fun h1=>k (.val v h1)
 |none=>false
def OQ(ev:Rec)(vals:List AV)(h:Heap)(k:j8→Bool):Bool:=match vals with
 |fv::args=>ev (.dw fv args h) k
 |[]=>false
section
variable (fs:Nat→Option aB) (ms:Nat→String→Option Nat) (zl:Ry)
def U9(ev:Rec)(name:String)(vals:List AV)(h:Heap)(k:j8→Bool):Bool:=match vals with
 |.iface t x::args=>match ms t name with
  |some f=>ev (.call f (x::args) h) k
  |none=>false
 |_=>false
def KW(ev:Rec)(o:gP)(vals:List AV)(h:Heap)(k:j8→Bool):Bool:=match o with
 |.p o=>WH h k (NC o vals)
 |.a o=>WE h k (YE o vals)
 |.r o=>WH h k (rIF o vals h)
 |.e o=>eIG o vals h fun v h1=>fV v fun v=>k (.val v h1)
 |.call=>OQ ev vals h k
 |.invoke name=>U9 ms ev name vals h k
 |.panic=>KX vals h k
 |_=>false
def Pv(ev:Rec)(e2:Env)(h3:Heap)(h:Heap)(L:Nat)(e:Env)(ps:List Nat)(a b:AC)(k:j8→Bool)(r:j8):Bool:=match r with
 |.code (.panic _) _ _=>yG ev a b e2 h3 k
 |.code x e4 h4=>nF h4 L (.loop (cond x.bZ 0 2) (eJ x) e ps a b) fun h5=>k (.val (.bool x.bZ) h5)
 |_=>false
def Pu(ev:Rec)(h:Heap)(L:Nat)(e:Env)(ps:List Nat)(a b:AC)(k:j8→Bool)(r:j8):Bool:=match r with
 |.code .normal e2 h2=>match h2.get L with
  |some (.loop 0 cU _ _ _ _)=>nF h2 L (.loop 1 cU e ps a b) fun h3=>ev (.code true b e2 h3) (Pv ev e2 h3 h L e ps a b k)
  |_=>false
 |_=>false
def OW(ev:Rec)(L:Nat)(args:List AV)(h:Heap)(k:j8→Bool):Bool:=match h.get L with
 |some (.loop 0 cF e ps a b)=>cond (Nat.beq args.length ps.length&&Nat.ble (L+1) h.next)
   (ev (.code true a (gL ps args e) h) (Pu ev h L e ps a b k)) false
 |_=>false
def OS(ev:Rec)(fv:AV)(args:List AV)(h:Heap)(k:j8→Bool):Bool:=match fv with
 |.func (.func f) first aN=>ev (.call f (first++(args++aN)) h) k
 |.yield L=>OW ev L args h k
 |_=>false
def acj(rs:List tF)(e:Env)(h:Heap)(k:j8→Bool):Bool:=match iu e h rs with
 |some vs=>fV (dz vs) fun v=>k (.val v h)
 |none=>false
def acg(rs:List tF)(k:j8→Bool)(r:j8):Bool:=match r with
 |.code x e h1=>match x with
  |.normal|.ret=>acj rs e h1 k
  |.panic v=>k (.kP v h1)
  |_=>false
 |_=>false
def RW(ev:Rec)(af:aB)(args:List AV)(h:Heap)(k:j8→Bool):Bool:=
 cond (Nat.ble args.length af.ntmps) (mJ af.ntmps args fun e0=>ev (.code false af.body e0 h) (acg af.results k)) false
def Vb{β:Type}:Tr β→(Tr β→Bool)→Bool
 |.nil,k=>k .nil
 |.node l v r,k=>Vb l fun l=>Vb r fun r=>match v with
  |none=>k (.node l none r)
  |some x=>k (.node l (some x) r)
theorem FG{β:Type}:∀(t:Tr β) (k:Tr β→Bool),Vb t k=k t
 |.nil,k=>rfl
 |.node l v r,k=>by
  simp only[Vb];rw[FG l,FG r];cases v<;>rfl
def fHp(h:Heap)(k:Heap→Bool):Bool:=match h with
 |⟨n,m⟩=>rz n fun n=>Vb m fun m=>k ⟨n,m⟩
theorem R1(h:Heap)(k:Heap→Bool):fHp h k=k h:=by cases h;simp only[fHp,xV,FG]
def OR(ev:Rec)(f:Nat)(args:List AV)(h:Heap)(k:j8→Bool):Bool:=match fs f with
 |some af=>match CX af.body with
  |none=>RW ev af args h k
  |some d=>RZ fs ev d af args h k
 |none=>false
def KT(ev:Rec)(f:Nat)(args:List AV)(h:Heap)(k:j8→Bool):Bool:=match zl f args h with
 |some (v,h1)=>fHp h1 fun h1=>k (.val v h1)
 |none=>OR fs ev f args h k
def v5(ev:Rec)(t:Task)(k:j8→Bool):Bool:=match t with
 |.code rd c e h=>RX ev rd c e h k
 |.ops rd l e h=>Va ev rd l e h k
 |.op rd o vals h=>KW ms ev o vals h k
 |.dw fv args h=>OS ev fv args h k
 |.call f args h=>KT fs zl ev f args h k
 |.any ..=>false
def U8:Nat→Rec
 |0=>fun _ _=>false
 |n+1=>fun t k=>v5 fs ms zl (U8 n) t k
theorem KU:∀n,U8 fs ms zl n=ev fs ms zl n
 |0=>by funext t k;rfl
 |n+1=>by
  funext t k
  simp only[U8,KU n];cases t with
  |code rd c e h=>
   cases c<;>rfl
  |ops rd l e h=>cases l<;>rfl
  |op rd o vals h=>
   cases o
   case p o=>simp only[v5,KW,Gn];rfl
   case a o=>simp only[v5,KW,Fk];rfl
   case r o=>simp only[v5,KW,TA];rfl
   case e o=>simp only[v5,KW,RP];rfl
   all_goals rfl
  |dw fv args h=>cases fv<;>rfl
  |call f args h=>
   simp only[v5,KT,R1];rfl
  |any rd c e h=>rfl
end
theorem KV{fs:Nat→Option aB}{ms:Nat→String→Option Nat}{zl:Ry}{n:Nat}{t:Task}{k:j8→Bool}(h:U8 fs ms zl n t k=true):ev fs ms zl n t k=true:=by
 rw[←KU];exact h
end Ads
end Go.Proofs.Ytepdklcpagielaa
set_option linter.unusedSimpArgs false
set_option linter.unusedVariables false
namespace Go.Proofs.Ytepdklcpagielaa
namespace Ads
def NF(q:Nat→aB→Prop):List (Nat×aB)→Prop
 |[]=>True
 |p::l=>q p.1 p.2∧NF q l
def WZ:List (Nat×aB)→Tr aB
 |[]=>.nil
 |p::l=>(WZ l).set p.1 p.2
theorem ql{q:Nat→aB→Prop}:∀{l:List (Nat×aB)},NF q l→∀{f:Nat} {af:aB},(WZ l).get f=some af→q f af
 |[],_,f,af,h=>by simp[WZ,Tr.get] at h
 |p::l,hq,f,af,h=>by
  simp only[WZ,Tr.bP] at h;split at h
  ·rename_i he;cases h
   rw[he];exact hq.1
  ·exact ql hq.2 h
section
variable {P:Program} {fs:Nat→Option aB} {ms:Nat→String→Option Nat}
theorem I1(H0:Nat)(ρ:de)(w:World)(hl:H0≤w.heap.size):Inv P H0 ρ (fun _=>False) ⟨0,.nil⟩ w:=
 ⟨fun b hb=>hb.elim,fun b _=>rfl,hl,fun b x hb _=>hb.elim,fun b b' hb _ _ _ _=>hb.elim⟩
structure Kept(w w':World):Prop where
 size:w.heap.size≤w'.heap.size
 old:∀r:Nat,r<w.heap.size→w'.heap[r]?=w.heap[r]?
 tape:w'.tape=w.tape
 os:w'.os=w.os
 output:w'.output=w.output
theorem BS.calls(sys:lW P fs ms){f:Nat}{args:List AV}{v:AV}{h1:Heap}(h:BS fs ms (.call f args ⟨0,.nil⟩) (.val v h1))(ha:bE (fun _=>False) args)(w:World):
  Calls P f (aA default args).toArray w fun e w'=>∃ρ,e=.returned (real ρ v)∧Kept w w':=by
 have hs:=(h.sound sys w.heap.size).1;have:=hs default (fun _=>False) w 0 (I1 _ _ w (Nat.le_refl _)) ha;rw[callsIn_wide] at this;refine this.mono ?_;rintro e w' ⟨ρ',rfl,hi,hx,hv⟩;exact⟨ρ',rfl,hx.size,fun r hr=>hx.frame r hr (fun b hb=>hb.elim),hx.tape,hx.os,hx.output⟩
def isTrue:j8→Bool
 |.val (.bool true) _=>true
 |_=>false
theorem OX{zl:Ry}(ho:Ke fs ms zl){n f:Nat}{h:Heap}(he:ev fs ms zl n (.call f [] h) isTrue=true):∃h1,BS fs ms (.call f [] h) (.val (.bool true) h1):=by
 obtain⟨r,hr,hk⟩:=o6 ho n _ _ he;cases r with
 |val v h1=>
  cases v with
  |bool b=>cases b with
   |true=>exact⟨h1,hr⟩
   |false=>simp[isTrue] at hk
  |_=>simp[isTrue] at hk
 |_=>simp[isTrue] at hk
end
end Ads
end Go.Proofs.Ytepdklcpagielaa
set_option linter.unusedSimpArgs false
set_option linter.unusedVariables false
namespace Go.Proofs.Ytepdklcpagielaa
namespace Ads
def OZ{α:Type}:List AV→(List AV→α)→α
 |[],k=>k []
 |v::vs,k=>fC v fun v=>OZ vs fun vs=>k (v::vs)
theorem Cr{α:Type}:∀(l:List AV) (k:List AV→α),OZ l k=k l
 |[],k=>rfl
 |v::vs,k=>by simp[OZ,DP,Cr vs]
section
variable (fs:Nat→Option aB) (ms:Nat→String→Option Nat) (rd:Bool)
abbrev Ch(t:Bool)(A B:Prop):Prop:=@Bool.rec (fun _=>Prop) B A t
def Comes(c:AC)(e:Env)(h:Heap)(Q:AX→Env→Heap→Prop):Prop:=∃x e' h',BS fs ms (.code rd c e h) (.code x e' h')∧Q x e' h'
def yd(l:List bK)(e:Env)(h:Heap)(Q:Env→Heap→Prop):Prop:=∃tr e' h',BS fs ms (.ops rd l e h) (.ops tr e' h')∧Q e' h'
def AT(f:Nat)(args:List AV)(h:Heap)(Q:AV→Heap→Prop):Prop:=∃v h',BS fs ms (.call f args h) (.val v h')∧Q v h'
def TK(o:sH)(vals:List AV):Bool:=
 match o with
 |.bin op=>match vals with
  |.str _::_=>match op with
   |.add=>false
   |_=>true
  |_=>match op with
   |.quo|.rem|.shl|.shr=>false
   |_=>true
 |.aE _|.bT _ _|.IZ _ _ _|.I0|.slice _ _ _ _|.nS _ _|.iY _ _ _ _ _=>false
 |_=>true
def wpOp(o:gP)(vals:List AV)(h:Heap)(k:AV→Heap→Prop):Prop:=
 match o with
 |.p .pick=>match vals with
  |[.bool c,a,b]=>Ch c (fC a fun v=>k v h) (fC b fun v=>k v h)
  |_=>False
 |.p o=>match TK o vals with
  |true=>match NC o vals with
   |some v=>fC v fun v=>k v h
   |none=>False
  |false=>∃v,NC o vals=some v∧fC v fun v=>k v h
 |.a o=>match YE o vals with
  |some (x,f)=>k (f h.next) (h.new x)
  |none=>False
 |.r o=>∃v,rI o vals h=some v∧k v h
 |.e o=>∃v h1,eI o vals h=some (v,h1)∧k v h1
 |.call=>match vals with
  |.func (.func f) first aN::args=>AT fs ms f (first++(args++aN)) h k
  |fv::args=>∃v h1,BS fs ms (.dw fv args h) (.val v h1)∧k v h1
  |[]=>False
 |.invoke name=>match vals with
  |.iface t x::args=>match ms t name with
   |some f=>AT fs ms f (x::args) h k
   |none=>False
  |_=>False
 |_=>False
def JS:List bK→Env→Heap→(Env→Heap→Prop)→Prop
 |[],e,h,k=>k e h
 |i::l,e,h,k=>match i.guard with
  |none=>OZ (i.args.map e.ev) fun vals=>wpOp fs ms i.op vals h fun v h1=>ju e i.dst v fun e1=>JS l e1 h1 k
  |some (d,want)=>match e.get d with
   |.bool b=>match want with
    |true=>Ch b (OZ (i.args.map e.ev) fun vals=>wpOp fs ms i.op vals h fun v h1=>ju e i.dst v fun e1=>JS l e1 h1 k) (ju e i.dst .undef fun e1=>JS l e1 h k)
    |false=>Ch b (ju e i.dst .undef fun e1=>JS l e1 h k) (OZ (i.args.map e.ev) fun vals=>wpOp fs ms i.op vals h fun v h1=>ju e i.dst v fun e1=>JS l e1 h1 k)
   |_=>ju e i.dst .undef fun e1=>JS l e1 h k
def GY:AC→Env→Heap→(AX→Env→Heap→Prop)→Prop
 |.skip,e,h,k=>k .normal e h
 |.ops l,e,h,k=>JS fs ms l e h fun e h=>k .normal e h
 |.bH l win,e,h,k=>match win.all (·.isEmpty) with
  |true=>JS fs ms l e h fun e h=>k .normal e h
  |false=>∃tr e' h',BS fs ms (.ops rd l e h) (.ops tr e' h')∧nR l win tr h'∧k .normal e' h'
 |.seq a b,e,h,k=>GY a e h fun x e1 h1=>match x with
  |.normal=>GY b e1 h1 k
  |x=>k x e1 h1
 |.cond c a b,e,h,k=>match e.ev c with
  |.bool t=>Ch t (GY a e h k) (GY b e h k)
  |_=>False
 |.block id c,e,h,k=>GY c e h fun x e1 h1=>match x with
  |.exit i=>match Nat.beq i id with
   |true=>k .normal e1 h1
   |false=>k (.exit i) e1 h1
  |x=>k x e1 h1
 |.loop c,e,h,k=>Comes fs ms rd (.loop c) e h k
 |.rangeFunc f ps a b,e,h,k=>Comes fs ms rd (.rangeFunc f ps a b) e h k
 |.exit id,e,h,k=>k (.exit id) e h
 |.ret,e,h,k=>k .ret e h
 |.bad,_,_,_=>False
end
section
variable {fs:Nat→Option aB} {ms:Nat→String→Option Nat} {rd:Bool}
theorem Ae{o:gP}{vals:List AV}{h:Heap}{k:AV→Heap→Prop}(hw:wpOp fs ms o vals h k):∃v h1,BS fs ms (.op rd o vals h) (.val v h1)∧k v h1:=by
 unfold wpOp at hw;split at hw
 ·split at hw
  ·rename_i c a b;cases c with
   |true=>exact⟨_,_,.Fg (v:=a) rfl,by rw[←DP a fun v=>k v h];exact hw⟩
   |false=>exact⟨_,_,.Fg (v:=b) rfl,by rw[←DP b fun v=>k v h];exact hw⟩
  ·exact hw.elim
 ·split at hw
  ·split at hw
   ·rename_i v hv;rw[Gn] at hv;rw[DP] at hw;exact⟨_,_,.Fg hv,hw⟩
   ·exact hw.elim
  ·obtain⟨v,hv,hw⟩:=hw;rw[Gn] at hv;rw[DP] at hw;exact⟨_,_,.Fg hv,hw⟩
 ·split at hw
  ·rename_i x f hv;rw[Fk] at hv;exact⟨_,_,.PU hv,hw⟩
  ·exact hw.elim
 ·obtain⟨v,hv,hk⟩:=hw;exact⟨_,_,.HI hv,hk⟩
 ·obtain⟨v,h1,hv,hk⟩:=hw;exact⟨_,_,.NB hv,hk⟩
 ·split at hw
  ·obtain⟨v,h1,hb,hk⟩:=hw;exact⟨_,_,.mF (.dw hb),hk⟩
  ·obtain⟨v,h1,hb,hk⟩:=hw;exact⟨_,_,.mF hb,hk⟩
  ·exact hw.elim
 ·split at hw
  ·split at hw
   ·rename_i f hf;obtain⟨v,h1,hb,hk⟩:=hw;exact⟨_,_,.me hf hb,hk⟩
   ·exact hw.elim
  ·exact hw.elim
 ·exact hw.elim
theorem ny:∀{l:List bK} {e:Env} {h:Heap} {k:Env→Heap→Prop},JS fs ms l e h k→yd fs ms rd l e h k
 |[],e,h,k,hw=>⟨_,_,_,.nil,hw⟩
 |i::l,e,h,k,hw=>by
  unfold JS at hw;split at hw
  ·rename_i hg;rw[Cr] at hw;obtain⟨v,h1,hb,hk⟩:=Ae (rd:=rd) hw;rw[jf] at hk;obtain⟨tr,e',h',hl,hk⟩:=ny hk;exact⟨_,_,_,.on (by simp[cz,hg]) hb hl,hk⟩
  ·rename_i d want hg;split at hw
   ·rename_i b hb;have dZ:b=want→(OZ (i.args.map e.ev) fun vals=>wpOp fs ms i.op vals h fun v h1=>ju e i.dst v fun e1=>JS fs ms l e1 h1 k)→yd fs ms rd (i::l) e h k:=by
     intro hbw hw;rw[Cr] at hw;obtain⟨v,h1,hb',hk⟩:=Ae (rd:=rd) hw;rw[jf] at hk;obtain⟨tr,e',h',hl,hk⟩:=ny hk;exact⟨_,_,_,.on (by simp[cz,hg,hb,hbw]) hb' hl,hk⟩
    have hoff:b=!want→(ju e i.dst .undef fun e1=>JS fs ms l e1 h k)→yd fs ms rd (i::l) e h k:=by
     intro hbw hk;rw[jf] at hk;obtain⟨tr,e',h',hl,hk⟩:=ny hk;exact⟨_,_,_,.off (by simp[cz,hg,hb,hbw]) hl,hk⟩
    cases want<;>cases b
    ·exact dZ rfl hw
    ·exact hoff rfl hw
    ·exact hoff rfl hw
    ·exact dZ rfl hw
   ·rename_i hne;rw[jf] at hw;obtain⟨tr,e',h',hl,hk⟩:=ny hw;refine⟨_,_,_,.off ?_ hl,hk⟩;unfold cz;rw[hg];cases hv:e.get d with
    |bool b=>exact absurd hv (hne b)
    |_=>simp only[hv]
theorem vD{u:Nat→Heap}:∀{l:List bK} {win:List (List Nat)} {tr:List aQ},win.all (·.isEmpty)=true→cW u l win tr
 |[],_,_,_=>by simp[cW]
 |_::_,[],_,_=>by simp[cW]
 |_::_,_::_,[],_=>by simp[cW]
 |x::l,cs::win,m::tr,h=>by
  simp only[List.all_cons,Bool.and_eq_true] at h;simp only[cW];refine⟨?_,vD h.2⟩;split
  ·intro _ c hc;rw[List.isEmpty_iff.1 h.1] at hc;simp at hc
  ·trivial
theorem lN:∀{c:AC} {e:Env} {h:Heap} {k:AX→Env→Heap→Prop},GY fs ms rd c e h k→Comes fs ms rd c e h k
 |.skip,e,h,k,hw=>⟨_,_,_,.skip,hw⟩
 |.ops l,e,h,k,hw=>by
  obtain⟨tr,e',h',hb,hk⟩:=ny (rd:=rd) (show JS fs ms l e h _ from hw);exact⟨_,_,_,.ops hb,hk⟩
 |.bH l win,e,h,k,hw=>by
  unfold GY at hw;split at hw
  ·rename_i wF;obtain⟨tr,e',h',hb,hk⟩:=ny (rd:=rd) hw;exact⟨_,_,_,.bH hb (vD wF),hk⟩
  ·obtain⟨tr,e',h',hb,hr,hk⟩:=hw;exact⟨_,_,_,.bH hb hr,hk⟩
 |.seq a b,e,h,k,hw=>by
  obtain⟨x,e1,h1,hb,hk⟩:=lN (show GY fs ms rd a e h _ from hw);cases x with
  |normal=>
   obtain⟨x2,e2,h2,iH,hk2⟩:=lN (show GY fs ms rd b e1 h1 k from hk);exact⟨_,_,_,.AL hb iH,hk2⟩
  |exit i=>exact⟨_,_,_,.qS hb rfl,hk⟩
  |ret=>exact⟨_,_,_,.qS hb rfl,hk⟩
  |panic v=>exact⟨_,_,_,.qS hb rfl,hk⟩
 |.cond c a b,e,h,k,hw=>by
  unfold GY at hw;split at hw
  ·rename_i t ht;cases t with
   |true=>
    obtain⟨x,e1,h1,hb,hk⟩:=lN (show GY fs ms rd a e h k from hw);exact⟨_,_,_,.cond ht hb,hk⟩
   |false=>
    obtain⟨x,e1,h1,hb,hk⟩:=lN (show GY fs ms rd b e h k from hw);exact⟨_,_,_,.cond ht hb,hk⟩
  ·exact hw.elim
 |.block id c,e,h,k,hw=>by
  obtain⟨x,e1,h1,hb,hk⟩:=lN (show GY fs ms rd c e h _ from hw);cases x with
  |exit i=>
   simp only at hk;split at hk
   ·rename_i QZ;have:=Nat.eq_of_beq_eq_true QZ;subst this;exact⟨_,_,_,.pX hb,hk⟩
   ·rename_i QZ;refine⟨_,_,_,.gE hb ?_,hk⟩;intro j hj hji;simp only[AX.exit.injEq] at hj;subst hj hji;simp at QZ
  |normal=>exact⟨_,_,_,.gE hb (by simp),hk⟩
  |ret=>exact⟨_,_,_,.gE hb (by simp),hk⟩
  |panic v=>exact⟨_,_,_,.gE hb (by simp),hk⟩
 |.loop c,e,h,k,hw=>hw
 |.rangeFunc f ps a b,e,h,k,hw=>hw
 |.exit id,e,h,k,hw=>⟨_,_,_,.exit,hw⟩
 |.ret,e,h,k,hw=>⟨_,_,_,.ret,hw⟩
 |.bad,e,h,k,hw=>hw.elim
theorem br{t:Bool}{A B:Prop}(h1:t=true→A)(h2:t=false→B):@Bool.rec (fun _=>Prop) B A t:=by
 cases t with
 |true=>exact h1 rfl
 |false=>exact h2 rfl
def RU(af:aB)(Q:AV→Heap→Prop):AX→Env→Heap→Prop:=fun x e h=>match x with
 |.normal|.ret=>match iu e h af.results with
  |some vs=>OZ vs fun vs=>match vs with
   |[v]=>Q v h
   |vs=>Q (.cQ vs) h
  |none=>False
 |_=>False
theorem U7{Q:AV→Heap→Prop}{vs:List AV}{h:Heap}(hk:OZ vs fun vs=>match vs with
   |[v]=>Q v h
   |vs=>Q (.cQ vs) h):Q (dz vs) h:=by
 rw[Cr] at hk;rcases vs with _|⟨v,_|⟨u,r⟩⟩<;>exact hk
theorem acQ{f:Nat}{af:aB}{args:List AV}{h:Heap}{Q:AV→Heap→Prop}(hf:fs f=some af)(hlen:args.length≤af.ntmps)
  (hw:mJ af.ntmps args fun e=>GY fs ms false af.body e h (RU af Q)):AT fs ms f args h Q:=by
 rw[lI] at hw;obtain⟨x,e1,h1,hb,hk⟩:=lN hw;cases x with
 |normal=>
  simp only[RU] at hk;split at hk
  ·rename_i vs hvs;exact⟨_,_,.call hf hlen hb (.inl rfl) hvs,U7 hk⟩
  ·exact hk.elim
 |ret=>
  simp only[RU] at hk;split at hk
  ·rename_i vs hvs;exact⟨_,_,.call hf hlen hb (.inr rfl) hvs,U7 hk⟩
  ·exact hk.elim
 |exit i=>exact hk.elim
 |panic v=>exact hk.elim
theorem AT.mono{f:Nat}{args:List AV}{h:Heap}{Q Q':AV→Heap→Prop}(hc:AT fs ms f args h Q)(hq:∀v h',Q v h'→Q' v h'):AT fs ms f args h Q':=by
 obtain⟨v,h',hb,hk⟩:=hc;exact⟨v,h',hb,hq v h' hk⟩
theorem Comes.mono{c:AC}{e:Env}{h:Heap}{Q Q':AX→Env→Heap→Prop}(hc:Comes fs ms rd c e h Q)(hq:∀x e' h',Q x e' h'→Q' x e' h'):Comes fs ms rd c e h Q':=by
 obtain⟨x,e',h',hb,hk⟩:=hc;exact⟨x,e',h',hb,hq x e' h' hk⟩
theorem RH{c:AC}{e:Env}{h:Heap}{Q:AX→Env→Heap→Prop}
  (hw:GY fs ms rd c e h fun x e1 h1=>match x with|.normal=>Comes fs ms rd (.loop c) e1 h1 Q|x=>Q x e1 h1):Comes fs ms rd (.loop c) e h Q:=by
 obtain⟨x,e1,h1,hb,hk⟩:=lN hw;cases x with
 |normal=>
  obtain⟨x2,e2,h2,iH,hk2⟩:=hk;exact⟨_,_,_,.nP hb iH,hk2⟩
 |exit i=>exact⟨_,_,_,.dJ hb rfl,hk⟩
 |ret=>exact⟨_,_,_,.dJ hb rfl,hk⟩
 |panic v=>exact⟨_,_,_,.dJ hb rfl,hk⟩
def sk:Nat→(Nat→Option AV)→Env
 |0,_=>.nil
 |d+1,g=>.node (sk d fun j=>g (2*j+1)) (g 0) (sk d fun j=>g (2*j+2))
def isFull:Nat→Env→Bool
 |0,.nil=>true
 |d+1,.node l _ r=>cond (isFull d l) (isFull d r) false
 |_,_=>false
theorem GG:∀(d:Nat) (e:Env),isFull d e=true→sk d (Tr.get e)=e
 |0,.nil,_=>rfl
 |0,.node _ _ _,h=>by simp[isFull] at h
 |d+1,.nil,h=>by simp[isFull] at h
 |d+1,.node l v r,h=>by
  simp only[isFull] at h;cases hl:isFull d l with
  |false=>rw[hl] at h;simp at h
  |true=>
   rw[hl] at h;simp only[cond_true] at h;have h1:(fun j=>(Tr.node l v r).get (2*j+1))=Tr.get l:=by
    funext j
    rw[Tr.je _ _ (by omega)];simp only[Tr.left]
    congr 1
    omega
   have h2:(fun j=>(Tr.node l v r).get (2*j+2))=Tr.get r:=by
    funext j
    rw[Tr.gu _ _ (by omega) (by omega)];simp only[Tr.right]
    congr 1
    omega
   simp only[sk];rw[h1,h2,GG d l hl,GG d r h];simp[Tr.get]
def kn(l:List (Nat×AV))(g:Nat→Option AV)(i:Nat):Option AV:=
 match l with
 |[]=>g i
 |(j,v)::r=>cond (Nat.beq i j) (some v) (kn r g i)
def aP(e:Env):List (Nat×AV)→Prop
 |[]=>True
 |(i,v)::l=>Tr.get e i=some v∧aP e l
theorem L2{e:Env}:∀{l:List (Nat×AV)},aP e l→∀i,kn l (Tr.get e) i=Tr.get e i
 |[],_,i=>rfl
 |(j,v)::r,h,i=>by
  simp only[kn];cases hb:Nat.beq i j with
  |false=>exact L2 h.2 i
  |true=>
   have:=Nat.eq_of_beq_eq_true hb;subst this;exact h.1.symm
theorem Rt{P:Env→Prop}{e:Env}(d:Nat)(l:List (Nat×AV))(hf:isFull d e=true)(hl:aP e l)(hc:∀g,P (sk d (kn l g))):P e:=by
 have:=hc (Tr.get e)
 rwa [show kn l (Tr.get e)=Tr.get e from funext (L2 hl),GG d e hf] at this
theorem U3{c:AC}{e:Env}{h:Heap}{Q:AX→Env→Heap→Prop}(d:Nat)(l:List (Nat×AV))(hf:isFull d e=true)(hl:aP e l)
  (hc:∀g,Comes fs ms rd c (sk d (kn l g)) h Q):Comes fs ms rd c e h Q:=Rt (P:=fun e=>Comes fs ms rd c e h Q) d l hf hl hc
end
end Ads
end Go.Proofs.Ytepdklcpagielaa
