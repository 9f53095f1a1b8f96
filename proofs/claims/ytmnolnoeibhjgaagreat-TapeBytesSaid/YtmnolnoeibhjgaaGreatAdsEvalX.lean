/-
  The pure operations once more, one small function each: for the kernel, that copies what it opens.
  An evaluator of big steps for Lean's kernel: continuations, data worked out before it is handed on. It is sound.
  The evaluator: loops' records are kept; comparing; the evaluator itself, and that it is sound.
  The evaluator itself, and that it is sound.
  The evaluator in small pieces: for the kernel, that copies what it opens.
  Tables of compiled functions; what a closed run comes to in the model.
  What code must come to, as a proposition that is worked out from the code: for functions whose arguments are not known.
-/
import Derived.Test.YtmnolnoeibhjgaaGreatAdsMain
set_option linter.unusedSimpArgs false
set_option linter.unusedVariables false
namespace Go.Proofs.YtmnolnoeibhjgaaGreat
namespace Ads
def l1{α:Type}(args:List AV)(f:AV→Option α):Option α:=match args with
 |[x]=>f x
 |_=>none
def l2{α:Type}(args:List AV)(f:AV→AV→Option α):Option α:=match args with
 |[x,y]=>f x y
 |_=>none
def l3{α:Type}(args:List AV)(f:AV→AV→AV→Option α):Option α:=match args with
 |[x,y,z]=>f x y z
 |_=>none
def lc{α:Type}(args:List AV)(f:AV→List AV→Option α):Option α:=match args with
 |x::r=>f x r
 |_=>none
def y6{α:Type}(v:AV)(f:IntKind→Int→Option α):Option α:=match v with
 |.int k n=>f k n
 |_=>none
def Dv{α:Type}(v:AV)(f:Bool→Option α):Option α:=match v with
 |.bool b=>f b
 |_=>none
def Cl{α:Type}(v:AV)(f:List UInt8→Option α):Option α:=match v with
 |.str s=>f s
 |_=>none
def AA{α:Type}(v:AV)(f:Nat→Nat→Option α):Option α:=match v with
 |.ptr b o=>f b o
 |_=>none
def Jn{α:Type}(v:AV)(f:List AV→Option α):Option α:=match v with
 |.agg cs=>f cs
 |_=>none
def NF{α:Type}(v:AV)(f:List AV→Option α):Option α:=match v with
 |.dO cs=>f cs
 |_=>none
def IU{α:Type}(v:AV)(f:Nat→Nat→Nat→Nat→Bool→Option α)(g:Option α):Option α:=match v with
 |.sl b o l c op=>f b o l c op
 |.az=>g
 |_=>none
def qw{α:Type}(v:AV)(f:Nat→Option α):Option α:=match asNat v with
 |some n=>f n
 |none=>none
def Cc(op:BinOp)(x y:AV):Option AV:=
 match x with
 |.int k a=>y6 y fun k' b=>cond (jL op) (mM op k a b) (cond (decide (k=k')) (qT op k a b) none)
 |.str a=>Cl y fun b=>yY op a b
 |_=>none
def lH(size:Nat)(lo hi m:Bool)(x:AV)(r:List AV):Option AV:=
 match x with
 |.fE a=>(match bounds 0 0 lo hi m r with
  |some _=>some (.fE a)
  |none=>none)
 |.rest b o k=>(match bounds 0 0 lo hi m r with
  |some _=>cond m none (some (.rest b o k))
  |none=>none)
 |x=>IU x (fun b o len cap jv=>match bounds len cap lo hi m r with
  |some (l,h,mm)=>cond (Nat.beq mm l&&Nat.beq cap mm&&(jv&&!m&&!Nat.beq l 0)) (some (.rest b o (l*size))) (some (.sl b (o+cond (Nat.beq mm l) 0 (l*size)) (h-l) (mm-l) (cond m false jv)))
  |none=>none) (match bounds 0 0 lo hi m r with
  |some _=>some .az
  |none=>none)
def Kh(o:pQ)(args:List AV):Option AV:=
 match o with
 |.yh=>l1 args some
 |.pick=>l3 args fun c a b=>Dv c fun c=>some (cond c a b)
 |.bin op=>l2 args (Cc op)
 |.eq k=>l2 args fun x y=>(BW k x y).map .bool
 |.neq k=>l2 args fun x y=>(BW k x y).map fun b=>.bool !b
 |.not=>l1 args fun x=>Dv x fun b=>some (.bool !b)
 |.neg=>l1 args fun x=>y6 x fun k n=>some (.int k (k.wrap (0-n)))
 |.Ef=>l1 args fun x=>Cl x fun s=>some (.str s)
 |.conv k=>l1 args fun x=>y6 x fun _ n=>some (.int k (k.wrap n))
 |.field off n g=>l1 args fun x=>Jn x fun cs=>part cs off n g
 |.ext i=>l1 args fun x=>NF x fun vs=>vs[i]?
 |.o7=>l1 args fun x=>AA x fun b o=>some (.ptr b o)
 |.vo off=>l1 args fun x=>AA x fun b o=>some (.ptr b (o+off))
 |.aB size=>l2 args fun x i=>IU x (fun b o len _ _=>qw i fun i=>cond (Nat.ble (i+1) len) (some (.ptr b (o+i*size))) none) none
 |.jD size len=>l2 args fun x i=>AA x fun b o=>qw i fun i=>cond (Nat.ble (i+1) len) (some (.ptr b (o+i*size))) none
 |.Ba size len g=>l2 args fun x i=>Jn x fun cs=>qw i fun i=>cond (Nat.ble (i+1) len) (part cs (i*size) size g) none
 |.CH=>l2 args fun x i=>Cl x fun s=>qw i fun i=>(s[i]?).map fun b=>.int .u8 b.toNat
 |.build iy parts=>(fill iy parts args).map .agg
 |.p8 t=>l1 args fun x=>some (.iface t x)
 |.ec fn n=>some (.func fn (args.take n) (args.drop n))
 |.aV=>l1 args fun x=>match x with
  |.fE _=>some (.int .i64 0)
  |.rest _ _ _=>some (.int .i64 0)
  |x=>IU x (fun _ _ len _ _=>some (.int .i64 len)) (some (.int .i64 0))
 |.lC=>l1 args fun x=>Cl x fun s=>some (.int .i64 s.length)
 |.E2 n=>some (.int .i64 n)
 |.mx=>lc args fun x r=>kq max2 x r
 |.mn=>lc args fun x r=>kq min2 x r
 |.slice size lo hi m=>lc args fun x r=>lH size lo hi m x r
 |.gN lo hi=>lc args fun x r=>Cl x fun s=>match bounds s.length s.length lo hi false r with
  |some (l,h,_)=>some (.str ((s.take h).drop l))
  |none=>none
 |.iL size len lo hi m=>lc args fun x r=>AA x fun b o=>match bounds len len lo hi m r with
  |some (l,h,mm)=>some (.sl b (o+cond (Nat.beq mm l) 0 (l*size)) (h-l) (mm-l) false)
  |none=>none
 |.nZ t ok zero=>l1 args fun x=>match x with
  |.iface u v=>cond (Nat.beq u t) (some (cond ok (.dO [v,.bool true]) v)) (cond ok (some (.dO [zero,.bool false])) none)
  |.ja=>cond ok (some (.dO [zero,.bool false])) none
  |_=>none
theorem Dq(op:BinOp)(x y:AV):Cc op x y=xe op x y:=by
 cases x<;>cases y<;>rfl
theorem CU(o:pQ)(args:List AV):Kh o args=pI o args:=by
 cases o
 case build z ps=>rfl
 case ec fn n=>rfl
 case E2 n=>rfl
 case bin op=>rcases args with _|⟨x,_|⟨y,_|⟨z,r⟩⟩⟩<;>first|rfl|exact Dq op x y
 case mx=>cases args<;>rfl
 case mn=>cases args<;>rfl
 case slice size lo hi m=>rcases args with _|⟨x,r⟩<;>first|rfl|(cases x<;>rfl)
 case gN lo hi=>rcases args with _|⟨x,r⟩<;>first|rfl|(cases x<;>rfl)
 case iL size len lo hi m=>rcases args with _|⟨x,r⟩<;>first|rfl|(cases x<;>rfl)
 case pick=>rcases args with _|⟨x,_|⟨y,_|⟨z,_|⟨u,r⟩⟩⟩⟩<;>first|rfl|(cases x<;>rfl)
 case nZ t ok zero=>rcases args with _|⟨x,_|⟨y,r⟩⟩<;>first|rfl|(cases x<;>rfl)
 all_goals (rcases args with _|⟨x,_|⟨y,_|⟨z,r⟩⟩⟩<;>first|rfl|(cases x<;>rfl)|(cases x<;>cases y<;>rfl))
end Ads
end Go.Proofs.YtmnolnoeibhjgaaGreat
set_option linter.unusedSimpArgs false
set_option linter.unusedVariables false
namespace Go.Proofs.YtmnolnoeibhjgaaGreat
namespace Ads
section
variable {α:Type}
def oS(n:Nat)(k:Nat→α):α:=match n with
 |0=>k 0
 |m+1=>k (Nat.succ m)
theorem uF(n:Nat)(k:Nat→α):oS n k=k n:=by cases n<;>rfl
def NX(n:Int)(k:Int→α):α:=match n with
 |.ofNat m=>oS m fun m=>k (.ofNat m)
 |.negSucc m=>oS m fun m=>k (.negSucc m)
theorem JC(n:Int)(k:Int→α):NX n k=k n:=by cases n<;>simp[NX,uF]
def Gv(b:Bool)(k:Bool→α):α:=match b with
 |true=>k true
 |false=>k false
theorem Gw(b:Bool)(k:Bool→α):Gv b k=k b:=by cases b<;>rfl
def fS(v:AV)(k:AV→α):α:=match v with
 |.bool b=>Gv b fun b=>k (.bool b)
 |.int kd n=>NX n fun n=>k (.int kd n)
 |.ptr b o=>oS b fun b=>oS o fun o=>k (.ptr b o)
 |.sl b o l c op=>oS b fun b=>oS o fun o=>oS l fun l=>oS c fun c=>Gv op fun op=>k (.sl b o l c op)
 |.map b=>oS b fun b=>k (.map b)
 |.yield b=>oS b fun b=>k (.yield b)
 |.str s=>k (.str s)
 |.bJ=>k .bJ
 |.az=>k .az
 |.fE a=>k (.fE a)
 |.rest b o j=>oS b fun b=>oS o fun o=>oS j fun j=>k (.rest b o j)
 |.jg=>k .jg
 |.func a b c=>k (.func a b c)
 |.iZ=>k .iZ
 |.iface t v=>k (.iface t v)
 |.ja=>k .ja
 |.agg cs=>k (.agg cs)
 |.dO cs=>k (.dO cs)
 |.fz f l=>k (.fz f l)
 |.fp cs o=>k (.fp cs o)
theorem KW(v:AV)(k:AV→α):fS v k=k v:=by cases v<;>simp[fS,uF,JC,Gw]
def fL:List AV→(List AV→α)→α
 |[],k=>k []
 |v::vs,k=>fS v fun v=>fL vs fun vs=>k (v::vs)
theorem AH:∀(l:List AV) (k:List AV→α),fL l k=k l
 |[],k=>rfl
 |v::vs,k=>by simp[fL,KW,AH vs]
def fB:List UInt8→(List UInt8→α)→α
 |[],k=>k []
 |v::vs,k=>fB vs fun vs=>k (v::vs)
theorem KV:∀(l:List UInt8) (k:List UInt8→α),fB l k=k l
 |[],k=>rfl
 |v::vs,k=>by simp[fB,KV vs]
def fV(v:AV)(k:AV→α):α:=match v with
 |.agg cs=>fL cs fun cs=>k (.agg cs)
 |.dO cs=>fL cs fun cs=>k (.dO cs)
 |.iface t v=>fS v fun v=>k (.iface t v)
 |.str s=>fB s fun s=>k (.str s)
 |.func f a b=>fL a fun a=>fL b fun b=>k (.func f a b)
 |v=>fS v k
theorem vn(v:AV)(k:AV→α):fV v k=k v:=by cases v<;>simp[fV,KW,AH,KV]
def xx{β:Type}(x:Option β):Nat→Tr β→Nat→(Tr β→α)→α
 |0,t,_,k=>k t
 |f+1,.nil,n,k=>cond (Nat.beq n 0) (k (.node .nil x .nil))
   (cond (Nat.beq (n%2) 1) (xx x f .nil (n/2) fun l=>k (.node l none .nil)) (xx x f .nil (n/2-1) fun r=>k (.node .nil none r)))
 |f+1,.node l v r,n,k=>cond (Nat.beq n 0) (k (.node l x r))
   (cond (Nat.beq (n%2) 1) (xx x f l (n/2) fun l=>k (.node l v r)) (xx x f r (n/2-1) fun r=>k (.node l v r)))
theorem sI{β:Type}(x:Option β):∀(f:Nat) (t:Tr β) (n:Nat) (k:Tr β→α),xx x f t n k=k (Tr.put x f t n)
 |0,t,n,k=>rfl
 |f+1,.nil,n,k=>by
  simp only[xx,Tr.put];cases Nat.beq n 0
  ·cases Nat.beq (n%2) 1<;>simp[sI x f,Tr.left,Tr.right,Tr.val]
  ·rfl
 |f+1,.node l v r,n,k=>by
  simp only[xx,Tr.put];cases Nat.beq n 0
  ·cases Nat.beq (n%2) 1<;>simp[sI x f,Tr.left,Tr.right,Tr.val]
  ·rfl
end
def Dp{α:Type}:List AV→Nat→Env→(Env→α)→α
 |[],_,e,k=>k e
 |v::vs,i,e,k=>xx (some v) (i+1) e i fun e=>Dp vs (i+1) e k
theorem Am{α:Type}:∀(l:List AV) (i:Nat) (e:Env) (k:Env→α),Dp l i e k=k (Env.args l i e)
 |[],i,e,k=>rfl
 |v::vs,i,e,k=>by simp[Dp,sI,Am vs,Env.args,Tr.set]
def lK{α:Type}(n:Nat)(args:List AV)(k:Env→α):α:=Dp args 0 (Tr.full (Nat.log2 n+1)) k
theorem iY{α:Type}(n:Nat)(args:List AV)(k:Env→α):lK n args k=k (Env.start n args):=Am _ _ _ _
def fC{α:Type}(v:AV)(k:AV→α):α:=match v with
 |.bool b=>k (.bool b)
 |.int kd n=>k (.int kd n)
 |.ptr b o=>k (.ptr b o)
 |.sl b o l c op=>k (.sl b o l c op)
 |.map b=>k (.map b)
 |.yield b=>k (.yield b)
 |.str s=>k (.str s)
 |.bJ=>k .bJ
 |.az=>k .az
 |.fE a=>k (.fE a)
 |.rest b o j=>k (.rest b o j)
 |.jg=>k .jg
 |.func a b c=>k (.func a b c)
 |.iZ=>k .iZ
 |.iface t v=>k (.iface t v)
 |.ja=>k .ja
 |.agg cs=>k (.agg cs)
 |.dO cs=>k (.dO cs)
 |.fz f l=>k (.fz f l)
 |.fp cs o=>k (.fp cs o)
theorem AG{α:Type}(v:AV)(k:AV→α):fC v k=k v:=by cases v<;>rfl
def zW{α β:Type}(t:Tr β)(n:Nat)(x:β)(k:Tr β→α):α:=xx (some x) (n+1) t n k
theorem qm{α β:Type}(t:Tr β)(n:Nat)(x:β)(k:Tr β→α):zW t n x k=k (t.set n x):=sI _ _ _ _ _
def gE{α:Type}(e:Env)(d:Option Nat)(v:AV)(k:Env→α):α:=match d with
 |some d=>zW e d v k
 |none=>k e
theorem fy{α:Type}(e:Env)(d:Option Nat)(v:AV)(k:Env→α):gE e d v k=k (e.put d v):=by
 cases d<;>simp[gE,Env.put,qm]
def newF{α:Type}(h:Heap)(x:bP)(k:Heap→α):α:=
 match x with
 |.cells vs wr es=>fL vs fun vs=>zW h.m h.next (.cells vs wr es) fun m=>oS (h.next+1) fun n=>k ⟨n,m⟩
 |x=>zW h.m h.next x fun m=>oS (h.next+1) fun n=>k ⟨n,m⟩
theorem p9{α:Type}(h:Heap)(x:bP)(k:Heap→α):newF h x k=k (h.new x):=by
 cases x<;>simp[newF,AH,qm,uF,Heap.new]
def k9{α:Type}(h:Heap)(b:Nat)(x:bP)(k:Heap→α):α:=
 match x with
 |.cells vs wr es=>fL vs fun vs=>zW h.m b (.cells vs wr es) fun m=>k ⟨h.next,m⟩
 |x=>zW h.m b x fun m=>k ⟨h.next,m⟩
theorem jQ{α:Type}(h:Heap)(b:Nat)(x:bP)(k:Heap→α):k9 h b x k=k (h.set b x):=by
 cases x<;>simp[k9,AH,qm,Heap.set]
def Jo{α:Type}(h:Heap)(b:Nat)(k:Heap→α):α:=xx none (b+1) h.m b fun m=>k ⟨h.next,m⟩
theorem Dw{α:Type}(h:Heap)(b:Nat)(k:Heap→α):Jo h b k=k (h.del b):=by
 simp[Jo,sI,Heap.del,Tr.del]
def rF(h:Heap)(b o:Nat)(xs:List AV)(k:Heap→Bool):Bool:=
 match h.get b with
 |some (.cells vs true es)=>cond (Nat.ble (o+xs.length) vs.length&&bz xs) (k9 h b (.cells (Heap.splice vs o xs) true es) k) false
 |_=>false
theorem qo(h:Heap)(b o:Nat)(xs:List AV)(k:Heap→Bool):rF h b o xs k=match h.cZ b o xs with|some h=>k h|none=>false:=by
 unfold rF Heap.cZ;cases hg:h.get b with
 |none=>rfl
 |some x=>
  cases x with
  |cells vs wr es=>
   cases wr with
   |true=>simp only[];cases(Nat.ble (o+xs.length) vs.length&&bz xs)<;>simp[jQ]
   |false=>rfl
  |_=>rfl
def QW(o:wW)(args:List AV)(h:Heap)(k:AV→Heap→Bool):Bool:=
 match o,args with
 |.store n,[.ptr b o,v]=>cond (Nat.beq v.cells.length n) (rF h b o v.cells fun h=>k .undef h) false
 |.append size bytes,[s,x]=>match aP size h x with
  |none=>false
  |some (n,new)=>cond (bz new) (match s with
   |.az=>cond (Nat.beq n 0) (k .az h)
     (cond (Nat.ble (n*bytes) 140737488355328&&Nat.ble n 9223372036854775807) (newF h (.cells new true size) fun h1=>k (.sl h.next 0 n n true) h1) false)
   |.sl b o len cap jv=>cond (Nat.beq n 0&&Nat.ble len cap) (k (.sl b o len cap jv) h) (cond (Nat.ble (len+n) cap)
     (rF h b (o+len*size) new fun h=>k (.sl b o (len+n) cap jv) h)
     (cond (Nat.ble ((len+n)*bytes) 140737488355328&&Nat.ble (len+n) 9223372036854775807)
      (match h.get b,h.bt b o (len*size) with
      |some (.cells vs wr es),some old=>cond jv
        (cond (wr&&Nat.beq vs.length (o+len*size)&&Nat.beq cap len&&Nat.beq es size)
         (Jo h b fun h2=>newF h2 (.cells (old++new) true size) fun h1=>k (.sl h.next 0 (len+n) (len+n) true) h1) false)
        (newF h (.cells (old++new) true size) fun h1=>k (.sl h.next 0 (len+n) (len+n) true) h1)
      |_,_=>false) false))
   |_=>false) false
 |.copy size,[d,x]=>match d,aP size h x with
  |.az,some _=>k (.int .i64 0) h
  |.sl b o len _ _,some (n,new)=>rF h b o (new.take (min n len*size)) fun h=>k (.int .i64 (min n len)) h
  |_,_=>false
 |.clear zs,[d]=>match d with
  |.az=>k .undef h
  |.sl b o len _ _=>rF h b o (dN zs len) fun h=>k .undef h
  |_=>false
 |.ins,[.map b,kv,v]=>match h.get b with
  |some (.map es bs c)=>match findKey kv es with
   |some r=>k9 h b (.map (putKey kv v es) (oh r bs c) (vg r c)) fun h=>k .undef h
   |none=>false
  |_=>false
 |.range,[.map b]=>match h.get b with
  |some (.map _ _ c)=>newF h (.iter b c [] c) fun h1=>k (.ptr h.next 0) h1
  |_=>false
 |.next,[.ptr it 0]=>match h.get it with
  |some (.iter m _ seen last)=>match h.get m with
   |some (.map _ bs _)=>cond (oY seen last bs&&(ou seen bs).isEmpty) (Jo h it fun h1=>k (.dO [.bool false]) h1) false
   |_=>false
  |_=>false
 |.HF,[.map b,kv]=>match h.get b with
  |some (.map es bs c)=>match findKey kv es with
   |some _=>k9 h b (.map (delKey kv es) (lY kv es bs) c) fun h=>k (.dO []) h
   |none=>false
  |_=>false
 |_,_=>false
theorem EI{o:wW}{args:List AV}{h:Heap}{k:AV→Heap→Bool}(hh:QW o args h k=true):∃v h1,eI o args h=some (v,h1)∧k v h1=true:=by
 unfold QW at hh;split at hh
 ·rename_i n b o v;simp only[eI];cases hb:Nat.beq v.cells.length n with
  |false=>simp[hb] at hh
  |true=>
   simp only[hb,cond_true,qo] at hh⊢;cases hs:h.cZ b o v.cells with
   |none=>simp[hs] at hh
   |some h1=>rw[hs] at hh;exact⟨.undef,h1,rfl,hh⟩
 ·rename_i size bytes s x;simp only[eI];cases hsc:aP size h x with
  |none=>simp[hsc] at hh
  |some p=>
   obtain⟨n,new⟩:=p;simp only[hsc] at hh⊢;cases hf:bz new with
   |false=>simp[hf] at hh
   |true=>
    simp only[hf,cond_true] at hh⊢;split at hh
    ·cases h0:Nat.beq n 0 with
     |true=>rw[h0] at hh;exact⟨_,_,rfl,hh⟩
     |false=>
      rw[h0] at hh;simp only[cond_false,p9] at hh⊢;cases hc:(Nat.ble (n*bytes) 140737488355328&&Nat.ble n 9223372036854775807) with
      |false=>simp[hc] at hh
      |true=>rw[hc] at hh;exact⟨_,_,rfl,hh⟩
    ·rename_i b o len cap jv;cases wT:(Nat.beq n 0&&Nat.ble len cap) with
     |true=>simp only[wT,cond_true] at hh⊢;exact⟨_,_,rfl,hh⟩
     |false=>
     simp only[wT,cond_false] at hh⊢;cases hle:Nat.ble (len+n) cap with
     |true=>
      simp only[hle,cond_true,qo] at hh⊢;cases hs:h.cZ b (o+len*size) new with
      |none=>simp[hs] at hh
      |some h1=>rw[hs] at hh;exact⟨_,_,rfl,hh⟩
     |false=>
      simp only[hle,cond_false] at hh⊢;cases hc:(Nat.ble ((len+n)*bytes) 140737488355328&&Nat.ble (len+n) 9223372036854775807) with
      |false=>simp[hc] at hh
      |true=>
       simp only[hc,cond_true] at hh⊢;split at hh
       ·rename_i vs wr es old hg hl;rw[hg,hl];simp only;cases jv with
        |false=>simp only[cond_false,p9] at hh⊢;exact⟨_,_,rfl,hh⟩
        |true=>
         simp only[cond_true] at hh⊢;cases hw:(wr&&Nat.beq vs.length (o+len*size)&&Nat.beq cap len&&Nat.beq es size) with
         |false=>simp[hw] at hh
         |true=>
          simp only[hw,cond_true,Dw,p9] at hh⊢;exact⟨_,_,rfl,hh⟩
       ·simp at hh
    ·simp at hh
 ·rename_i size d x;simp only[eI];split at hh
  ·rename_i q hq;rw[hq];exact⟨_,_,rfl,hh⟩
  ·rename_i b o len cap jv n new hq;rw[hq];simp only[qo] at hh⊢;cases hs:h.cZ b o (new.take (min n len*size)) with
   |none=>simp[hs] at hh
   |some h1=>rw[hs] at hh;exact⟨_,_,rfl,hh⟩
  ·simp at hh
 ·rename_i zs d;simp only[eI];split at hh
  ·exact⟨_,_,rfl,hh⟩
  ·rename_i b o len cap jv;simp only[qo] at hh⊢;cases hs:h.cZ b o (dN zs len) with
   |none=>simp[hs] at hh
   |some h1=>rw[hs] at hh;exact⟨_,_,rfl,hh⟩
  ·simp at hh
 ·rename_i b kv v;simp only[eI];split at hh
  ·rename_i es bs c hg;rw[hg];split at hh
   ·rename_i r hr;simp only[hr,jQ] at hh⊢;exact⟨_,_,rfl,hh⟩
   ·simp at hh
  ·simp at hh
 ·rename_i b;simp only[eI];split at hh
  ·rename_i es bs c hg;rw[hg];simp only[p9] at hh⊢;exact⟨_,_,rfl,hh⟩
  ·simp at hh
 ·rename_i it;simp only[eI];split at hh
  ·rename_i m since seen last hg;rw[hg];simp only;split at hh
   ·rename_i es bs c hm;rw[hm];simp only;cases hc:(oY seen last bs&&(ou seen bs).isEmpty) with
    |false=>simp[hc] at hh
    |true=>
     simp only[hc,cond_true,Dw] at hh⊢;exact⟨_,_,rfl,hh⟩
   ·simp at hh
  ·simp at hh
 ·rename_i b kv;simp only[eI];split at hh
  ·rename_i es bs c hg;rw[hg];split at hh
   ·rename_i r hr;simp only[hr,jQ] at hh⊢;exact⟨_,_,rfl,hh⟩
   ·simp at hh
  ·simp at hh
 ·simp at hh
end Ads
end Go.Proofs.YtmnolnoeibhjgaaGreat
set_option linter.unusedSimpArgs false
set_option linter.unusedVariables false
namespace Go.Proofs.YtmnolnoeibhjgaaGreat
namespace Ads
theorem s9{α:Type}{c:Bool}{x:α}{y:α}(h:cond c (some x) none=some y):x=y:=by
 cases c with
 |false=>simp at h
 |true=>simpa using h
def LK(h h':Heap):Prop:=h.next≤h'.next∧∀L st cw e ps a b,L<h.next→h.get L=some (.loop st cw e ps a b)→∃st' ku,h'.get L=some (.loop st' ku e ps a b)
theorem LK.refl(h:Heap):LK h h:=⟨Nat.le_refl _,fun L st cw e ps a b _ hg=>⟨st,cw,hg⟩⟩
theorem LK.trans{h h1 h2:Heap}(x:LK h h1)(y:LK h1 h2):LK h h2:=by
 refine⟨Nat.le_trans x.1 y.1,fun L st cw e ps a b hL hg=>?_⟩;obtain⟨st',ku,hg'⟩:=x.2 L st cw e ps a b hL hg;exact y.2 L st' ku e ps a b (Nat.lt_of_lt_of_le hL x.1) hg'
theorem LK.new(h:Heap)(x:bP):LK h (h.new x):=
 ⟨by simp,fun L st cw e ps a b hL hg=>⟨st,cw,by rw[Heap.bT,if_neg (by omega)];exact hg⟩⟩
theorem LK.set{h:Heap}{b:Nat}{x y:bP}(hb:h.get b=some x)(hx:∀st cw e ps a c,x≠.loop st cw e ps a c):LK h (h.set b y):=by
 refine⟨Nat.le_refl _,fun L st cw e ps a c hL hg=>⟨st,cw,?_⟩⟩;rw[Heap.aT,if_neg]
 ·exact hg
 ·rintro rfl;rw[hb] at hg;cases hg
  exact hx _ _ _ _ _ _ rfl
theorem LK.del{h:Heap}{b:Nat}{x:bP}(hb:h.get b=some x)(hx:∀st cw e ps a c,x≠.loop st cw e ps a c):LK h (h.del b):=by
 refine⟨Nat.le_refl _,fun L st cw e ps a c hL hg=>⟨st,cw,?_⟩⟩;rw[Heap.cJ,if_neg]
 ·exact hg
 ·rintro rfl;rw[hb] at hg;cases hg
  exact hx _ _ _ _ _ _ rfl
theorem LK.store{h h':Heap}{b o:Nat}{xs:List AV}(hs:h.cZ b o xs=some h'):LK h h':=by
 unfold Heap.cZ at hs;split at hs
 ·rename_i vs es hg;cases hc:(Nat.ble (o+xs.length) vs.length&&bz xs) with
  |false=>simp[hc] at hs
  |true=>
   simp only[hc,cond_true,Option.some.injEq] at hs;subst hs;exact LK.set hg (by simp)
 ·simp at hs
theorem LK.eff{o:wW}{args:List AV}{h h':Heap}{v:AV}(he:eI o args h=some (v,h')):LK h h':=by
 unfold eI at he;split at he
 ·rename_i n b o v;cases hb:Nat.beq v.cells.length n with
  |false=>simp[hb] at he
  |true=>
   simp only[hb,cond_true,Option.map_eq_some_iff,Prod.mk.injEq] at he;obtain⟨h1,hs,_,rfl⟩:=he;exact LK.store hs
 ·rename_i size bytes s x;split at he
  ·simp at he
  ·rename_i n new hsc;cases hf:bz new with
   |false=>simp[hf] at he
   |true=>
    simp only[hf,cond_true] at he;split at he
    ·cases h0:Nat.beq n 0 with
     |true=>
      simp only[h0,cond_true,Option.some.injEq,Prod.mk.injEq] at he;obtain⟨_,rfl⟩:=he;exact LK.refl _
     |false=>
      simp only[h0,cond_false] at he;cases hc:(Nat.ble (n*bytes) 140737488355328&&Nat.ble n 9223372036854775807) with
      |false=>simp[hc] at he
      |true=>
       simp only[hc,cond_true,Option.some.injEq,Prod.mk.injEq] at he;obtain⟨_,rfl⟩:=he;exact LK.new _ _
    ·rename_i b o len cap jv;cases wT:(Nat.beq n 0&&Nat.ble len cap) with
     |true=>
      simp only[wT,cond_true,Option.some.injEq,Prod.mk.injEq] at he;obtain⟨_,rfl⟩:=he;exact LK.refl _
     |false=>
     simp only[wT,cond_false] at he;cases hle:Nat.ble (len+n) cap with
     |true=>
      simp only[hle,cond_true,Option.map_eq_some_iff,Prod.mk.injEq] at he;obtain⟨h1,hs,_,rfl⟩:=he;exact LK.store hs
     |false=>
      simp only[hle,cond_false] at he;cases hc:(Nat.ble ((len+n)*bytes) 140737488355328&&Nat.ble (len+n) 9223372036854775807) with
      |false=>simp[hc] at he
      |true=>
       simp only[hc,cond_true] at he;split at he
       ·rename_i vs wr es old hg hl;cases jv with
        |false=>
         simp only[cond_false,Option.some.injEq,Prod.mk.injEq] at he;obtain⟨_,rfl⟩:=he;exact LK.new _ _
        |true=>
         simp only[cond_true] at he;cases hw:(wr&&Nat.beq vs.length (o+len*size)&&Nat.beq cap len&&Nat.beq es size) with
         |false=>simp[hw] at he
         |true=>
          simp only[hw,cond_true,Option.some.injEq,Prod.mk.injEq] at he;obtain⟨_,rfl⟩:=he;exact(LK.del hg (by simp)).trans (LK.new _ _)
       ·simp at he
    ·cases h0:Nat.beq n 0 with
     |true=>
      simp only[h0,cond_true,Option.some.injEq,Prod.mk.injEq] at he;obtain⟨_,rfl⟩:=he;exact LK.refl _
     |false=>
      simp only[h0,cond_false] at he;cases hc:(Nat.ble (n*bytes) 140737488355328&&Nat.ble n 9223372036854775807) with
      |false=>simp[hc] at he
      |true=>
       simp only[hc,cond_true,Option.some.injEq,Prod.mk.injEq] at he;obtain⟨_,rfl⟩:=he;exact LK.new _ _
    ·simp at he
 ·rename_i size d x;split at he
  ·simp only[Option.some.injEq,Prod.mk.injEq] at he;obtain⟨_,rfl⟩:=he;exact LK.refl _
  ·simp only[Option.some.injEq,Prod.mk.injEq] at he;obtain⟨_,rfl⟩:=he;exact LK.refl _
  ·simp only[Option.map_eq_some_iff,Prod.mk.injEq] at he;obtain⟨h1,hs,_,rfl⟩:=he;exact LK.store hs
  ·simp at he
 ·rename_i iy d;split at he
  ·simp only[Option.some.injEq,Prod.mk.injEq] at he;obtain⟨_,rfl⟩:=he;exact LK.refl _
  ·simp only[Option.map_eq_some_iff,Prod.mk.injEq] at he;obtain⟨h1,hs,_,rfl⟩:=he;exact LK.store hs
  ·simp at he
 ·split at he
  ·rename_i hg;split at he
   ·simp only[Option.some.injEq,Prod.mk.injEq] at he;obtain⟨_,rfl⟩:=he;exact LK.set hg (by simp)
   ·simp at he
  ·simp at he
 ·split at he
  ·simp only[Option.some.injEq,Prod.mk.injEq] at he;obtain⟨_,rfl⟩:=he;exact LK.new _ _
  ·simp at he
 ·split at he
  ·rename_i hg;split at he
   ·obtain⟨_,rfl⟩:=Prod.mk.inj (s9 he);exact LK.del hg (by simp)
   ·simp at he
  ·simp at he
 ·split at he
  ·rename_i hg;split at he
   ·simp only[Option.some.injEq,Prod.mk.injEq] at he;obtain⟨_,rfl⟩:=he;exact LK.set hg (by simp)
   ·simp at he
  ·simp at he
 ·simp only[Option.some.injEq,Prod.mk.injEq] at he;obtain⟨_,rfl⟩:=he;exact LK.new _ _
 ·simp at he
def Task.heap:Task→Heap
 |.code _ _ _ h=>h
 |.ops _ _ _ h=>h
 |.op _ _ _ h=>h
 |.cK _ _ h=>h
 |.call _ _ h=>h
 |.any _ _ _ h=>h
def iF.heap:iF→Heap
 |.post _=>⟨0,.nil⟩
 |.code _ _ h=>h
 |.ops _ _ h=>h
 |.val _ h=>h
 |.jh _ h=>h
theorem LK.W4{o:wW}{args:List AV}{h h':Heap}{v:AV}(he:eK o args h=some (v,h')):LK h h':=by
 unfold eK at he;split at he
 ·split at he
  ·simp at he
  ·split at he
   ·rename_i hg _;have he:=s9 he;cases he
    exact(LK.set hg (by simp)).trans (LK.new _ _)
   ·simp at he
 ·simp at he
theorem LK.fu{h g g':Heap}(x:LK g g')(s:kV g h):LK h (mX h g g'):=by
 refine⟨by rw[←s.1];exact x.1,fun L st cw e ps a b hL hg=>?_⟩;have cu:(mX h g g').get L=if(g.get L).isSome=true∨h.next≤L then g'.get L else h.get L:=by
  show(sH h g g' g'.next).get L=_;rw[kR];have:L<g'.next:=by have:=x.1;have:=s.1;omega
  simp only[this,true_and]
 rw[cu];split
 ·rename_i hc;rcases hc with hc|hc
  ·cases hy:g.get L with
   |none=>rw[hy] at hc;simp at hc
   |some y=>
    have:=s.2 L y hy;rw[hg] at this;cases this
    exact x.2 L st cw e ps a b (by rw[s.1];exact hL) hy
  ·omega
 ·exact⟨st,cw,hg⟩
theorem LK.SB{h g u h2:Heap}(x:LK g u)(s:kV g h)(hn:h2.next=u.next)(h1:∀b,b<h.next→h2.get b=if(g.get b).isSome=true then u.get b else h.get b):LK h h2:=by
 refine⟨by rw[hn,←s.1];exact x.1,fun L st cw e ps a b hL hg=>?_⟩;rw[h1 L hL];split
 ·rename_i hc;cases hy:g.get L with
  |none=>rw[hy] at hc;simp at hc
  |some y=>
   have:=s.2 L y hy;rw[hg] at this;cases this
   exact x.2 L st cw e ps a b (by rw[s.1];exact hL) hy
 ·exact⟨st,cw,hg⟩
theorem LK.forget{h H h2:Heap}(x:LK h H)(s:kV h2 H)(ho:∀b,b<h.next→h.get b≠none→h2.get b=H.get b):LK h h2:=
 ⟨by rw[s.1];exact x.1,fun L st cw e ps a b hL hg=>by rw[ho L hL (by rw[hg];simp)];exact x.2 L st cw e ps a b hL hg⟩
def B7(t:Task)(r:iF):Prop:=match r with
 |.post Q=>∃x e h',Q x e h'∧LK t.heap h'
 |r=>LK t.heap r.heap
theorem B7.of{t t':Task}{r:iF}(x:LK t.heap t'.heap)(k:B7 t' r):B7 t r:=by
 cases r with
 |post Q=>obtain⟨a,b,c,q,l⟩:=k;exact⟨a,b,c,q,x.trans l⟩
 |_=>exact LK.trans x k
theorem ru{h:Heap}{it m since c:Nat}{seen:List Nat}{p:AV×Heap}:∀{bs:List Nat} {es:List (AV×AV)},p∈sA h it m since seen c bs es→∃x,p.2=h.set it x
 |[],es,hp=>by simp[sA] at hp
 |b::bs,[],hp=>by simp[sA] at hp
 |b::bs,(k,v)::es,hp=>by
  simp only[sA] at hp;cases hb:tu b seen with
  |true=>rw[hb] at hp;exact ru hp
  |false=>
   rw[hb] at hp;rcases List.mem_cons.1 hp with rfl|hp
   ·exact⟨_,rfl⟩
   ·exact ru hp
theorem LK.o5{args:List AV}{h:Heap}{cs:List (AV×Heap)}{p:AV×Heap}(hc:o5 args h=some cs)(hp:p∈cs):LK h p.2:=by
 unfold Ads.o5 at hc;split at hc
 ·split at hc
  ·rename_i hg;split at hc
   ·have:=s9 hc;subst this;obtain⟨x,hx⟩:=ru hp;rw[hx];exact LK.set hg (by simp)
   ·simp at hc
  ·simp at hc
 ·simp at hc
theorem BS.Sq{fs:Nat→Option aj}{ms:Nat→String→Option Nat}{t:Task}{r:iF}(h:BS fs ms t r):B7 t r:=by
 induction h with
 |skip=>exact LK.refl _
 |ops _ ih=>exact ih
 |bI _ _ ih=>exact ih
 |wC _ _ ih1 ih2=>exact B7.of (t':=.code _ _ _ _) ih1 ih2
 |oz _ _ ih=>exact ih
 |cond _ _ ih=>exact B7.of (LK.refl _) ih
 |nw _ ih=>exact ih
 |eR _ _ ih=>exact ih
 |lE _ _ ih1 ih2=>exact B7.of (t':=.code _ _ _ _) ih1 ih2
 |cT _ _ ih=>exact ih
 |exit=>exact LK.refl _
 |ret=>exact LK.refl _
 |@rangeFunc g ps a b e h f first aO v h2 st x hg hc hl hst hx ih=>
  have h1:=(LK.new h (.loop 0 none e ps a b)).trans ih;refine⟨h1.1,fun L st cw e ps a b hL Li=>?_⟩;obtain⟨st',ku,hg'⟩:=h1.2 L st cw e ps a b hL Li;have hL':L<h.next:=hL;exact⟨st',ku,by simp only[iF.heap];rw[Heap.aT,if_neg (by omega)];exact hg'⟩
 |nil=>exact LK.refl _
 |off _ _ ih=>exact ih
 |on _ _ _ ih1 ih2=>exact ih1.trans ih2
 |B6 _=>exact LK.refl _
 |Kc _=>exact LK.new _ _
 |DT _=>exact LK.refl _
 |rL h=>exact LK.eff h
 |SA h=>exact LK.W4 h
 |jH _ ih=>exact ih
 |jX _ _ ih=>exact ih
 |cK _ ih=>exact ih
 |@yield L args h cw e ps a b e2 h2 bW x e4 h4 Ee mc hg hlen uH zj wS hx I0 ih1 ih2=>
  show LK h (h4.set L _);replace ih1:LK h h2:=ih1;replace ih2:LK (h2.set L (.loop 1 bW e ps a b)) h4:=ih2;refine⟨Nat.le_trans ih1.1 ih2.1,fun L0 YP HY e0 SD a0 b0 Rn Lg=>?_⟩;by_cases hl:L0=L
  ·subst hl;rw[hg] at Lg;cases Lg
   exact⟨_,_,by rw[Heap.aT,if_pos rfl]⟩
  ·obtain⟨s1,p1,g1⟩:=ih1.2 L0 YP HY e0 SD a0 b0 Rn Lg;obtain⟨s2,p2,g2⟩:=ih2.2 L0 s1 p1 e0 SD a0 b0 (Nat.lt_of_lt_of_le Rn ih1.1) (by rw[Heap.aT,if_neg hl];exact g1);exact⟨s2,p2,by rw[Heap.aT,if_neg hl];exact g2⟩
 |call _ _ _ _ _ ih=>exact ih
 |fresh _ _ _ _=>exact LK.refl _
 |za hs _ hn h1 _ ih=>exact ih.SB hs hn h1
 |forget hs ho _ ih=>exact ih.forget hs ho
 |iP _ _ ih=>exact(LK.new _ _).trans ih
 |@od L args h cw e ps a id A l1 i l2 e2 h2 bW e3 h3 tr e4 h4 v h5 hg hlen uH hU zj B0 hsA hl hw ho ih1 Hw ihl uc=>
  replace ih1:LK h h2:=ih1;have Yx:LK (h2.set L (.loop 1 bW e ps a (.block id (.seq A (.ops (l1++i::l2)))))) h5:=LK.trans Hw (LK.trans ihl uc);refine⟨Nat.le_trans ih1.1 Yx.1,fun L0 YP HY e0 SD a0 b0 Rn Lg=>?_⟩;obtain⟨s1,p1,g1⟩:=ih1.2 L0 YP HY e0 SD a0 b0 Rn Lg;have hlt:L0<h2.next:=Nat.lt_of_lt_of_le Rn ih1.1;by_cases hl:L0=L
  ·subst hl;rw[zj] at g1;cases g1
   exact Yx.2 L0 _ _ _ _ _ _ hlt (by rw[Heap.aT,if_pos rfl])
  ·exact Yx.2 L0 s1 p1 e0 SD a0 b0 hlt (by rw[Heap.aT,if_neg hl];exact g1)
 |zD _ _ _ ih1 ih2=>exact ih1.trans ih2
 |tS _ _ _ _ _ _ ih1 ih2=>exact ih1.trans ih2
 |nM=>exact LK.refl _
 |kG _ ih=>exact ih
 |kQ _ _ ih=>exact ih
 |nB _ ih=>exact ih
 |tQ _ _ _ ih=>exact ih
 |rW _ _ _ _ _ _ _ _ _ _ _ _ _ _ _ _ _ _ _ Hw ih1 ih2 _ ih3=>exact((Hw.trans ih1).trans ih2).trans ih3
 |Ca _ hq ih=>exact⟨_,_,_,hq,ih⟩
 |@Cb rd a b e h R Q _ hx _ rm ng=>
  obtain⟨x,e1,h1,hr,l⟩:=rm;cases hn:x.bB with
  |false=>exact⟨x,e1,h1,hx _ _ _ hr hn,l⟩
  |true=>
   have:x=.normal:=by cases x<;>simp[AX.bB] at hn;rfl
   subst this;obtain⟨x2,e2,h2,hq,l2⟩:=ng e1 h1 hr;exact⟨x2,e2,h2,hq,LK.trans l l2⟩
 |yS _ _ ih=>exact ih
 |uZ _ hx ih=>
  obtain⟨x,e1,h1,hr,l⟩:=ih;exact⟨_,e1,h1,hx _ _ _ hr,l⟩
 |@yT rd c e h R Q _ hx _ rm ng=>
  obtain⟨x,e1,h1,hr,l⟩:=rm;cases hn:x.bB with
  |false=>exact⟨x,e1,h1,hx _ _ _ hr hn,l⟩
  |true=>
   have:x=.normal:=by cases x<;>simp[AX.bB] at hn;rfl
   subst this;obtain⟨x2,e2,h2,hq,l2⟩:=ng e1 h1 hr;exact⟨x2,e2,h2,hq,LK.trans l l2⟩
 |@yU rd dst args l e h cs Q T E H hc hne hl hq ihl=>
  cases cs with
  |nil=>exact absurd rfl hne
  |cons p cs=>exact⟨_,_,_,hq p List.mem_cons_self,LK.trans (LK.o5 hc List.mem_cons_self) (ihl p List.mem_cons_self)⟩
 |uD _ _ _ hQ ih=>
  obtain⟨x,e1,h1,hq,l⟩:=ih;obtain⟨_,_,s,ho⟩:=hQ x e1 h1 hq;exact LK.forget l s ho
theorem BS.keep{fs:Nat→Option aj}{ms:Nat→String→Option Nat}{t:Task}{r:iF}(h:BS fs ms t r)(hr:∀Q,r≠.post Q:=by simp):LK t.heap r.heap:=by
 have:=h.Sq;cases r with
 |post Q=>exact absurd rfl (hr Q)
 |_=>exact this
theorem BS.Av{fs:Nat→Option aj}{ms:Nat→String→Option Nat}{f:Nat}{args:List AV}{h:Heap}{r:iF}(hb:BS fs ms (.call f args h) r):(∃v h1,r=.val v h1)∨∃v h1,r=.jh v h1:=by
 cases hb with
 |call _ _ _ _ _=>exact .inl ⟨_,_,rfl⟩
 |fresh _ _ _=>exact .inl ⟨_,_,rfl⟩
 |za _ _ _ _ _=>exact .inl ⟨_,_,rfl⟩
 |forget _ _ _=>exact .inl ⟨_,_,rfl⟩
 |tQ _ _ _=>exact .inr ⟨_,_,rfl⟩
 |uD _ _ _ _=>exact .inl ⟨_,_,rfl⟩
 |rW _ _ _ _ _ _ _ _ _ _ _ _ _ _ _ _ _ _ _=>exact .inl ⟨_,_,rfl⟩
end Ads
end Go.Proofs.YtmnolnoeibhjgaaGreat
set_option linter.unusedSimpArgs false
set_option linter.unusedVariables false
namespace Go.Proofs.YtmnolnoeibhjgaaGreat
namespace Ads
mutual
def AV.same:AV→AV→Bool
 |.bool a,.bool b=>a==b
 |.int k n,.int k' m=>cond (decide (k=k')) (decide (n=m)) false
 |.str s,.str t=>s==t
 |.ptr b o,.ptr b' o'=>Nat.beq b b'&&Nat.beq o o'
 |.bJ,.bJ=>true
 |.sl b o l c op,.sl b' o' l' c' op'=>Nat.beq b b'&&Nat.beq o o'&&Nat.beq l l'&&Nat.beq c c'&&op==op'
 |.az,.az=>true
 |.map b,.map b'=>Nat.beq b b'
 |.jg,.jg=>true
 |.func f a c,.func f' a' c'=>decide (f=f')&&qK a a'&&qK c c'
 |.iZ,.iZ=>true
 |.yield b,.yield b'=>Nat.beq b b'
 |.iface t v,.iface t' v'=>Nat.beq t t'&&v.same v'
 |.ja,.ja=>true
 |.agg cs,.agg cs'=>qK cs cs'
 |.dO cs,.dO cs'=>qK cs cs'
 |.rest b o k,.rest b' o' k'=>Nat.beq b b'&&Nat.beq o o'&&Nat.beq k k'
 |_,_=>false
def qK:List AV→List AV→Bool
 |[],[]=>true
 |v::vs,u::us=>v.same u&&qK vs us
 |_,_=>false
end
mutual
theorem AV.kI:∀{v u:AV},v.same u=true→v=u:=by
 intro v u h;cases v<;>cases u<;>simp only[AV.same,Bool.and_eq_true,beq_iff_eq,Bool.false_eq_true,decide_eq_true_eq] at h<;>
  first
  |rfl
  |(obtain rfl:=h;rfl)
  |(have:=Nat.eq_of_beq_eq_true h;subst this;rfl)
  |(have h1:=Nat.eq_of_beq_eq_true h.1;have h2:=Nat.eq_of_beq_eq_true h.2;subst h1 h2;rfl)
  |(obtain⟨⟨⟨⟨h1,h2⟩,h3⟩,h4⟩,h5⟩:=h;have:=Nat.eq_of_beq_eq_true h1;have:=Nat.eq_of_beq_eq_true h2;have:=Nat.eq_of_beq_eq_true h3;have:=Nat.eq_of_beq_eq_true h4;subst_vars;rfl)
  |(obtain⟨⟨h1,h2⟩,h3⟩:=h;have:=Nat.eq_of_beq_eq_true h1;have:=Nat.eq_of_beq_eq_true h2;have:=Nat.eq_of_beq_eq_true h3;subst_vars;rfl)
  |(rename_i k n k' m;by_cases hk:k=k'<;>simp[hk] at h;subst hk h;rfl)
  |(rw[m5 h])
  |(obtain⟨⟨h1,h2⟩,h3⟩:=h;rw[h1,m5 h2,m5 h3])
  |(obtain⟨h1,h2⟩:=h;rw[Nat.eq_of_beq_eq_true h1,AV.kI h2])
theorem m5:∀{v u:List AV},qK v u=true→v=u:=by
 intro v u h;cases v<;>cases u<;>simp only[qK,Bool.and_eq_true,Bool.false_eq_true] at h
 ·rfl
 ·rw[AV.kI h.1,m5 h.2]
end
def pq(u:Nat→Heap):List bp→List (List Nat)→List aK→Bool
 |x::l,cs::win,m::tr=>cond (match x.op with
   |.r o=>cond m.on (cs.all fun c=>match rI o m.vals (u c) with|some v=>v.same m.v|none=>false) true
   |_=>true) (pq u l win tr) false
 |_,_,_=>true
theorem nR{u:Nat→Heap}:∀{l:List bp} {win:List (List Nat)} {tr:List aK},pq u l win tr=true→cz u l win tr
 |[],_,_,_=>by simp[cz]
 |_::_,[],_,_=>by simp[cz]
 |_::_,_::_,[],_=>by simp[cz]
 |x::l,cs::win,m::tr,h=>by
  simp only[pq] at h;generalize hb:(match x.op with
   |.r o=>cond m.on (cs.all fun c=>match rI o m.vals (u c) with|some v=>v.same m.v|none=>false) true
   |_=>true)=b at h
  cases b with
  |false=>simp at h
  |true=>
   simp only[cond_true] at h;simp only[cz];refine⟨?_,nR h⟩;split
   ·rename_i o ho;intro gb c hc;rw[ho] at hb;simp only[gb,cond_true,List.all_eq_true] at hb;have:=hb c hc;split at this
    ·rename_i v hv;rw[hv,AV.kI this]
    ·simp at this
   ·trivial
def oZ:List bp→Option (List bp×bp)
 |[]=>none
 |[i]=>some ([],i)
 |i::l=>match oZ l with
  |some (l1,j)=>some (i::l1,j)
  |none=>none
theorem lA:∀{l l1:List bp} {i:bp},oZ l=some (l1,i)→l=l1++[i]
 |[],l1,i,h=>by simp[oZ] at h
 |[j],l1,i,h=>by simp only[oZ,Option.some.injEq,Prod.mk.injEq] at h;obtain⟨rfl,rfl⟩:=h;rfl
 |j::k::l,l1,i,h=>by
  simp only[oZ] at h;split at h
  ·rename_i l2 i2 h2;simp only[Option.some.injEq,Prod.mk.injEq] at h;obtain⟨rfl,rfl⟩:=h;rw[lA (l:=k::l) h2];rfl
  ·simp at h
def zX(c:AC):Option (AC×List bp×Option Nat×Nat×AC):=
 match c with
 |.seq A d=>match d with
  |.seq o rest=>match o with
   |.ops l=>match oZ l with
    |some (l1,i)=>match i.op with
     |.bad=>match i with
      |⟨dst,none,.bad,[.c (.bool true),.t a,.t b,.t c]⟩=>cond (Nat.beq a b&&Nat.beq a c) (some (A,l1,dst,a,rest)) none
      |_=>none
     |_=>none
    |none=>none
   |_=>none
  |_=>none
 |_=>none
theorem Ft{c A:AC}{l1:List bp}{dst:Option Nat}{a:Nat}{rest:AC}(h:zX c=some (A,l1,dst,a,rest)):c=.seq A (.seq (.ops (l1++[om dst (.t a)])) rest):=by
 unfold zX at h;split at h
 ·split at h
  ·split at h
   ·split at h
    ·rename_i hl;split at h
     ·split at h
      ·rename_i ZX a2 b2 c2 _;cases hb:(Nat.beq a2 b2&&Nat.beq a2 c2) with
       |false=>rw[hb] at h;simp at h
       |true=>
        rw[hb] at h;simp only[cond_true,Option.some.injEq,Prod.mk.injEq] at h;obtain⟨rfl,rfl,rfl,rfl,rfl⟩:=h;simp only[Bool.and_eq_true] at hb;have h1:=Nat.eq_of_beq_eq_true hb.1;have h2:=Nat.eq_of_beq_eq_true hb.2;subst h1 h2;rw[lA hl];rfl
      ·simp at h
     ·simp at h
    ·simp at h
   ·simp at h
  ·simp at h
 ·simp at h
def Dd(c:AC):Option (Nat×List bp×AC):=
 match c with
 |.seq (.ops (⟨some t,none,.bad,[.c (.bool false),.c (.bool false),.c (.bool false),.c (.bool false)]⟩::l2)) dJ=>some (t,l2,dJ)
 |_=>none
theorem yH{c:AC}{t:Nat}{l2:List bp}{dJ:AC}(h:Dd c=some (t,l2,dJ)):c=.seq (.ops (v9 t::l2)) dJ:=by
 unfold Dd at h;split at h
 ·simp only[Option.some.injEq,Prod.mk.injEq] at h;obtain⟨rfl,rfl,rfl⟩:=h;rfl
 ·simp at h
def CK{α:Type}:List α→Bool
 |[]=>true
 |_=>false
def Hx:AX→Bool
 |.exit _=>false
 |_=>true
abbrev Rec:=Task→(iF→Bool)→Bool
def y8(ev:Rec)(rd:Bool)(l:List bp)(win:List (List Nat))(e:Env)(h:Heap)(k:iF→Bool):Bool:=match oZ l with
 |some (l1,i)=>ev (.ops rd l1 e h) fun r=>match r with
  |.ops tr e1 h1=>cond (bO i e1) (cond (pq (cA l1 tr h1) l1 (win.take l1.length) tr&&lB l&&bS i.op) (ev (.op rd i.op (i.args.map e1.ev) h1) fun r=>match r with
   |.jh v h2=>k (.code (.panic v) e1 h2)
   |_=>false) false) false
  |_=>false
 |none=>false
def vm(ev:Rec)(a b:AC)(e:Env)(h:Heap)(k:iF→Bool):Bool:=match b with
 |.block _ (.seq A (.ops l))=>cond (aU a&&aU A) (ev (.code true A e h) fun r=>match r with
  |.code .normal e1 h1=>ev (.ops true l e1 h1) fun r=>match r with
   |.code (.panic v) _ h2=>k (.jh v h2)
   |_=>false
  |_=>false) false
 |_=>false
def Gu(vals:List AV)(h:Heap)(k:iF→Bool):Bool:=match vals with
 |[.iface t x]=>k (.jh (.iface t x) h)
 |_=>false
def NU(fs:Nat→Option aj)(ev:Rec)(d:AC×List bp×Option Nat×Nat×AC)(af:aj)(args:List AV)(h:Heap)(k:iF→Bool):Bool:=match d with
 |(A,l1,dst,a,rest)=>cond (Nat.ble args.length af.ntmps&&aU A) (lK af.ntmps args fun e0=>ev (.code false A e0 h) fun r=>match r with
  |.code .normal e1 h1=>ev (.ops false l1 e1 h1) fun r=>match r with
   |.ops tr e2 h2=>match e2.ev (.t a) with
    |.func (.func g) first aO=>ev (.code false rest (e2.put dst .undef) h2) fun r=>match r with
     |.code x e3 h3=>cond (Hx x) (match fs g with
      |some ag=>match Dd ag.body with
       |some (t,l2,dJ)=>cond (Nat.ble (first++aO).length ag.ntmps&&CK ag.results&&aU dJ&&ke l2)
        (ev (.ops false l2 ((Env.start ag.ntmps (first++aO)).put (some t) (mC x)) h3) fun r=>match r with
        |.ops wV e4 h4=>ev (.code false dJ e4 h4) fun r=>match r with
         |.code y e5 h5=>match y with
          |.normal|.ret=>match eA e3 h5 af.results with
           |some vs=>k (.val (cB vs) h5)
           |none=>false
          |_=>false
         |_=>false
        |_=>false) false
       |none=>false
      |none=>false) false
     |_=>false
    |_=>false
   |_=>false
  |_=>false) false
abbrev B8:=Nat→List AV→Heap→Option (AV×Heap)
def HL:B8:=fun _ _ _=>none
def qC(fs:Nat→Option aj)(ms:Nat→String→Option Nat)(mA:B8):Prop:=∀f args h v h1,mA f args h=some (v,h1)→BS fs ms (.call f args h) (.val v h1)
theorem HM{fs:Nat→Option aj}{ms:Nat→String→Option Nat}:qC fs ms HL:=fun f args h v h1 hh=>by simp[HL] at hh
section
variable (fs:Nat→Option aj) (ms:Nat→String→Option Nat) (mA:B8)
def ev:Nat→Task→(iF→Bool)→Bool
 |0,_,_=>false
 |n+1,t,k=>match t with
  |.code rd c e h=>match c with
   |.skip=>k (.code .normal e h)
   |.ops l=>ev n (.ops rd l e h) fun r=>match r with
    |.ops tr e' h'=>k (.code .normal e' h')
    |.code (.panic v) e1 h1=>k (.code (.panic v) e1 h1)
    |_=>false
   |.bI l win=>ev n (.ops rd l e h) fun r=>match r with
    |.ops tr e' h'=>cond (pq (cA l tr h') l win tr) (k (.code .normal e' h')) false
    |.code (.panic _) _ _=>y8 (ev n) rd l win e h k
    |_=>false
   |.seq a b=>ev n (.code rd a e h) fun r=>match r with
    |.code .normal e1 h1=>ev n (.code rd b e1 h1) k
    |.code x e1 h1=>k (.code x e1 h1)
    |_=>false
   |.cond c a b=>match e.ev c with
    |.bool t=>ev n (.code rd (cond t a b) e h) k
    |_=>false
   |.block id c=>ev n (.code rd c e h) fun r=>match r with
    |.code (.exit i) e1 h1=>cond (Nat.beq i id) (k (.code .normal e1 h1)) (k (.code (.exit i) e1 h1))
    |.code x e1 h1=>k (.code x e1 h1)
    |_=>false
   |.loop c=>ev n (.code rd c e h) fun r=>match r with
    |.code .normal e1 h1=>ev n (.code rd (.loop c) e1 h1) k
    |.code x e1 h1=>k (.code x e1 h1)
    |_=>false
   |.exit id=>k (.code (.exit id) e h)
   |.ret=>k (.code .ret e h)
   |.rangeFunc g ps a b=>match rd,e.ev g with
    |false,.func (.func f) first aO=>newF h (.loop 0 none e ps a b) fun h1=>ev n (.call f (first++(.yield h.next::aO)) h1) fun r=>match r with
     |.val v h2=>match h2.get h.next with
      |some (.loop st none _ _ _ _)=>cond (Nat.beq st 1) false (k9 h2 h.next (.loop 3 none e ps a b) fun h3=>k (.code .normal e h3))
      |some (.loop st (some (.exit id)) _ _ _ _)=>cond (Nat.beq st 1) false (k9 h2 h.next (.loop 3 (some (.exit id)) e ps a b) fun h3=>k (.code (.exit id) e h3))
      |some (.loop st (some .ret) _ _ _ _)=>cond (Nat.beq st 1) false (k9 h2 h.next (.loop 3 (some .ret) e ps a b) fun h3=>k (.code .ret e h3))
      |_=>false
     |.jh v h2=>k (.code (.panic v) e h2)
     |_=>false
    |_,_=>false
   |.bad=>false
  |.ops rd l e h=>match l with
   |[]=>k (.ops [] e h)
   |i::l=>cond (bO i e)
     (ev n (.op rd i.op (i.args.map e.ev) h) fun r=>match r with
      |.val v h1=>gE e i.dst v fun e1=>ev n (.ops rd l e1 h1) fun r=>match r with
       |.ops tr e' h'=>k (.ops (⟨h,i.args.map e.ev,v,true⟩::tr) e' h')
       |.code (.panic v) e1 h2=>k (.code (.panic v) e1 h2)
       |_=>false
      |.jh v h2=>k (.code (.panic v) e h2)
      |_=>false)
     (gE e i.dst .undef fun e1=>ev n (.ops rd l e1 h) fun r=>match r with
      |.ops tr e' h'=>k (.ops (⟨h,i.args.map e.ev,.undef,false⟩::tr) e' h')
      |.code (.panic v) e1 h2=>k (.code (.panic v) e1 h2)
      |_=>false)
  |.op rd o vals h=>match o with
   |.p o=>match pI o vals with
    |some v=>fV v fun v=>k (.val v h)
    |none=>false
   |.a o=>match aI o vals with
    |some (x,f)=>fV (f h.next) fun v=>newF h x fun h1=>k (.val v h1)
    |none=>false
   |.r o=>match rI o vals h with
    |some v=>fV v fun v=>k (.val v h)
    |none=>false
   |.e o=>QW o vals h fun v h1=>fV v fun v=>k (.val v h1)
   |.call=>match vals with
    |fv::args=>ev n (.cK fv args h) k
    |[]=>false
   |.invoke name=>match vals with
    |.iface t x::args=>match ms t name with
     |some f=>ev n (.call f (x::args) h) k
     |none=>false
    |_=>false
   |.panic=>Gu vals h k
   |_=>false
  |.cK fv args h=>match fv with
   |.func (.func f) first aO=>ev n (.call f (first++(args++aO)) h) k
   |.yield L=>match h.get L with
    |some (.loop 0 cw e ps a b)=>cond (Nat.beq args.length ps.length&&Nat.ble (L+1) h.next)
     (ev n (.code true a (eW ps args e) h) fun r=>match r with
      |.code .normal e2 h2=>match h2.get L with
       |some (.loop 0 bW _ _ _ _)=>k9 h2 L (.loop 1 bW e ps a b) fun h3=>ev n (.code true b e2 h3) fun r=>match r with
        |.code (.panic _) _ _=>vm (ev n) a b e2 h3 k
        |.code x e4 h4=>k9 h4 L (.loop (cond x.bB 0 2) (cU x) e ps a b) fun h5=>k (.val (.bool x.bB) h5)
        |_=>false
       |_=>false
      |_=>false) false
    |_=>false
   |_=>false
  |.call f args h=>match mA f args h with
   |some (v,h1)=>k (.val v h1)
   |none=>match fs f with
   |some af=>match zX af.body with
    |none=>cond (Nat.ble args.length af.ntmps) (lK af.ntmps args fun e0=>ev n (.code false af.body e0 h) fun r=>match r with
     |.code x e h1=>match x with
      |.normal|.ret=>match eA e h1 af.results with
       |some vs=>fV (cB vs) fun v=>k (.val v h1)
       |none=>false
      |.panic v=>k (.jh v h1)
      |_=>false
     |_=>false) false
    |some d=>NU fs (ev n) d af args h k
   |none=>false
  |.any ..=>false
end
section
variable {fs:Nat→Option aj} {ms:Nat→String→Option Nat} {mA:B8}
theorem nO:∀{l:List bp} {rd:Bool} {e:Env} {h:Heap} {tr:List aK} {e':Env} {h':Heap},ke l=true→BS fs ms (.ops rd l e h) (.ops tr e' h')→h'=h
 |[],rd,e,h,tr,e',h',_,hb=>by cases hb;rfl
 |i::l,rd,e,h,tr,e',h',hp,hb=>by
  simp only[ke,Bool.and_eq_true] at hp;cases hb with
  |off hw hl=>exact nO hp.2 hl
  |on hw ho hl=>
   obtain⟨d,gd,op,as⟩:=i;cases op<;>cases gd<;>simp at hp
   cases ho
   exact nO hp hl
def U8(fs:Nat→Option aj)(ms:Nat→String→Option Nat)(t:Task)(r:iF):Prop:=match t with
 |.ops rd l e h=>match r with
  |.ops tr e' h'=>BS fs ms (.ops rd l e h) (.ops tr e' h')
  |.code (.panic v) e1 h2=>∃l1 i l2 tr h1,l=l1++i::l2∧BS fs ms (.ops rd l1 e h) (.ops tr e1 h1)∧bO i e1=true∧BS fs ms (.op rd i.op (i.args.map e1.ev) h1) (.jh v h2)
  |_=>False
 |t=>BS fs ms t r
theorem je(ho:qC fs ms mA):∀(n:Nat) (t:Task) (k:iF→Bool),ev fs ms mA n t k=true→∃r,U8 fs ms t r∧k r=true
 |0,t,k,h=>by simp[ev] at h
 |n+1,t,k,h=>by
  have uc:∀rd l e hp k,ev fs ms mA n (.ops rd l e hp) k=true→∃r,U8 fs ms (.ops rd l e hp) r∧k r=true:=fun rd l e hp k=>je ho n _ k;have lT:∀rd c e hp k,ev fs ms mA n (.code rd c e hp) k=true→∃r,BS fs ms (.code rd c e hp) r∧k r=true:=fun rd c e hp k=>je ho n _ k;have Un:∀rd o vals hp k,ev fs ms mA n (.op rd o vals hp) k=true→∃r,BS fs ms (.op rd o vals hp) r∧k r=true:=fun rd o vals hp k=>je ho n _ k;have ihv:∀fv args hp k,ev fs ms mA n (.cK fv args hp) k=true→∃r,BS fs ms (.cK fv args hp) r∧k r=true:=fun fv args hp k=>je ho n _ k;have Si:∀f args hp k,ev fs ms mA n (.call f args hp) k=true→∃r,BS fs ms (.call f args hp) r∧k r=true:=fun f args hp k=>je ho n _ k;unfold ev at h;split at h
  ·rename_i rd c e hp;show∃r,BS fs ms (.code rd c e hp) r∧k r=true;split at h
   ·exact⟨_,.skip,h⟩
   ·obtain⟨r,hr,hk⟩:=uc _ _ _ _ _ h;split at hk
    ·exact⟨_,.ops hr,hk⟩
    ·obtain⟨l1,i,l2,tr,h1,rfl,g1,g2,g3⟩:=hr;exact⟨_,.zD g1 g2 g3,hk⟩
    ·simp at hk
   ·rename_i l win;obtain⟨r,hr,hk⟩:=uc _ _ _ _ _ h;split at hk
    ·rename_i tr e' h';cases hb:pq (cA l tr h') l win tr with
     |false=>simp[hb] at hk
     |true=>rw[hb] at hk;exact⟨_,.bI hr (nR hb),hk⟩
    ·unfold y8 at hk;split at hk
     ·rename_i l1 i hl;have:=lA hl;subst this;obtain⟨r2,kN,hk2⟩:=uc _ _ _ _ _ hk;split at hk2
      ·rename_i tr e1 h1;cases hw:bO i e1 with
       |false=>rw[hw] at hk2;simp at hk2
       |true=>
        rw[hw] at hk2;simp only[cond_true] at hk2;cases hb:(pq (cA l1 tr h1) l1 (win.take l1.length) tr&&lB (l1++[i])&&bS i.op) with
        |false=>rw[hb] at hk2;simp at hk2
        |true=>
         rw[hb] at hk2;simp only[cond_true] at hk2;simp only[Bool.and_eq_true] at hb;obtain⟨r3,x8,lS⟩:=Un _ _ _ _ _ hk2;split at lS
         ·exact⟨_,.tS kN (nR hb.1.1) hb.1.2 hb.2 hw x8,lS⟩
         ·simp at lS
      ·simp at hk2
     ·simp at hk
    ·simp at hk
   ·obtain⟨r,hr,hk⟩:=lT _ _ _ _ _ h;split at hk
    ·obtain⟨r',hr',hk'⟩:=lT _ _ _ _ _ hk;exact⟨_,.wC hr hr',hk'⟩
    ·rename_i x e1 h1 hne;refine⟨_,.oz hr ?_,hk⟩;cases x<;>simp_all[AX.bB]
    ·simp at hk
   ·split at h
    ·rename_i t ht;obtain⟨r,hr,hk⟩:=lT _ _ _ _ _ h;exact⟨_,.cond ht hr,hk⟩
    ·simp at h
   ·rename_i id c;obtain⟨r,hr,hk⟩:=lT _ _ _ _ _ h;split at hk
    ·rename_i i e1 h1;cases hb:Nat.beq i id with
     |true=>
      rw[hb] at hk;have:=Nat.eq_of_beq_eq_true hb;subst this;exact⟨_,.nw hr,hk⟩
     |false=>
      rw[hb] at hk;refine⟨_,.eR hr ?_,hk⟩;intro j hj hji;simp only[AX.exit.injEq] at hj;subst hj hji;simp at hb
    ·rename_i x e1 h1 hne;exact⟨_,.eR hr (fun i hi=>absurd hi (by intro hc;exact hne i hc)),hk⟩
    ·simp at hk
   ·obtain⟨r,hr,hk⟩:=lT _ _ _ _ _ h;split at hk
    ·obtain⟨r',hr',hk'⟩:=lT _ _ _ _ _ hk;exact⟨_,.lE hr hr',hk'⟩
    ·rename_i x e1 h1 hne;refine⟨_,.cT hr ?_,hk⟩;cases x<;>simp_all[AX.bB]
    ·simp at hk
   ·exact⟨_,.exit,h⟩
   ·exact⟨_,.ret,h⟩
   ·rename_i g ps a b;split at h
    ·rename_i f first aO hg
     rw[p9] at h;obtain⟨r,hr,hk⟩:=Si _ _ _ _ h;split at hk
     ·rename_i v h2;have hkeep:=hr.keep.2 hp.next 0 none e ps a b (by simp[Task.heap]) (by simp[Task.heap,Heap.bT]);obtain⟨st',ku,cu⟩:=hkeep;simp only[iF.heap] at cu;rw[cu] at hk;have hst:∀{x:Bool},cond (Nat.beq st' 1) false x=true→st'≠1∧x=true:=by
       intro x hx;cases hb:Nat.beq st' 1 with
       |true=>rw[hb] at hx;simp at hx
       |false=>rw[hb] at hx;exact⟨by(rintro rfl;simp at hb),hx⟩
      split at hk
      ·rename_i heq;simp only[Option.some.injEq,bP.loop.injEq] at heq;obtain⟨rfl,rfl,_⟩:=heq;obtain⟨h1,xo⟩:=hst hk;rw[jQ] at xo;exact⟨_,.rangeFunc (x:=.normal) hg hr cu h1 (by simp),xo⟩
      ·rename_i heq;simp only[Option.some.injEq,bP.loop.injEq] at heq;obtain⟨rfl,rfl,_⟩:=heq;obtain⟨h1,xo⟩:=hst hk;rw[jQ] at xo;exact⟨_,.rangeFunc (x:=.exit _) hg hr cu h1 (by simp),xo⟩
      ·rename_i heq;simp only[Option.some.injEq,bP.loop.injEq] at heq;obtain⟨rfl,rfl,_⟩:=heq;obtain⟨h1,xo⟩:=hst hk;rw[jQ] at xo;exact⟨_,.rangeFunc (x:=.ret) hg hr cu h1 (by simp),xo⟩
      ·simp at hk
     ·exact⟨_,.iP hg hr,hk⟩
     ·simp at hk
    ·simp at h
   ·simp at h
  ·rename_i rd l e hp;show∃r,U8 fs ms (.ops rd l e hp) r∧k r=true;split at h
   ·exact⟨.ops [] e hp,(.nil:BS fs ms (.ops rd [] e hp) (.ops [] e hp)),h⟩
   ·rename_i i l;cases hw:bO i e with
    |true=>
     rw[hw] at h;obtain⟨r,hr,hk⟩:=Un _ _ _ _ _ h;split at hk
     ·rw[fy] at hk;obtain⟨r',hr',hk'⟩:=uc _ _ _ _ _ hk;split at hk'
      ·rename_i tr e' h';exact⟨.ops _ e' h',(.on hw hr hr':BS fs ms (.ops rd (i::l) e hp) (.ops _ e' h')),hk'⟩
      ·rename_i v e1 h2;obtain⟨l1,j,l2,tr,h1,rfl,g1,g2,g3⟩:=hr';exact⟨.code (.panic v) e1 h2,⟨i::l1,j,l2,_,h1,rfl,.on hw hr g1,g2,g3⟩,hk'⟩
      ·simp at hk'
     ·rename_i v h2;exact⟨.code (.panic v) e h2,⟨[],i,l,[],hp,rfl,.nil,hw,hr⟩,hk⟩
     ·simp at hk
    |false=>
     rw[hw] at h;simp only[cond_false,fy] at h;obtain⟨r,hr,hk⟩:=uc _ _ _ _ _ h;split at hk
     ·rename_i tr e' h';exact⟨.ops _ e' h',(.off hw hr:BS fs ms (.ops rd (i::l) e hp) (.ops _ e' h')),hk⟩
     ·rename_i v e1 h2;obtain⟨l1,j,l2,tr,h1,rfl,g1,g2,g3⟩:=hr;exact⟨.code (.panic v) e1 h2,⟨i::l1,j,l2,_,h1,rfl,.off hw g1,g2,g3⟩,hk⟩
     ·simp at hk
  ·rename_i rd o vals hp;show∃r,BS fs ms (.op rd o vals hp) r∧k r=true;split at h
   ·split at h
    ·rename_i v hv;rw[vn] at h;exact⟨_,.B6 hv,h⟩
    ·simp at h
   ·split at h
    ·rename_i x f hv;rw[vn,p9] at h;exact⟨_,.Kc hv,h⟩
    ·simp at h
   ·split at h
    ·rename_i v hv;rw[vn] at h;exact⟨_,.DT hv,h⟩
    ·simp at h
   ·obtain⟨v,h1,hv,hk⟩:=EI h;rw[vn] at hk;exact⟨_,.rL hv,hk⟩
   ·split at h
    ·obtain⟨r,hr,hk⟩:=ihv _ _ _ _ h;cases hr with
     |cK hc=>exact⟨_,.jH (.cK hc),hk⟩
     |nB hc=>exact⟨_,.kG (.nB hc),hk⟩
     |yield h1 h2 h3 h4 h5 h6 h7=>exact⟨_,.jH (.yield h1 h2 h3 h4 h5 h6 h7),hk⟩
     |od h1 h2 h3 h4 h5 h6 h7 h8 h9 Qd=>exact⟨_,.kG (.od h1 h2 h3 h4 h5 h6 h7 h8 h9 Qd),hk⟩
    ·simp at h
   ·split at h
    ·split at h
     ·rename_i f hf;obtain⟨r,hr,hk⟩:=Si _ _ _ _ h;rcases hr.Av with⟨v,h1,rfl⟩|⟨v,h1,rfl⟩
      ·exact⟨_,.jX hf hr,hk⟩
      ·exact⟨_,.kQ hf hr,hk⟩
     ·simp at h
    ·simp at h
   ·unfold Gu at h;split at h
    ·exact⟨_,.nM,h⟩
    ·simp at h
   ·simp at h
  ·rename_i fv args hp;show∃r,BS fs ms (.cK fv args hp) r∧k r=true;split at h
   ·obtain⟨r,hr,hk⟩:=Si _ _ _ _ h;rcases hr.Av with⟨v,h1,rfl⟩|⟨v,h1,rfl⟩
    ·exact⟨_,.cK hr,hk⟩
    ·exact⟨_,.nB hr,hk⟩
   ·rename_i L;split at h
    ·rename_i cw e ps a b hg;cases hc:(Nat.beq args.length ps.length&&Nat.ble (L+1) hp.next) with
     |false=>rw[hc] at h;simp at h
     |true=>
      rw[hc] at h;simp only[cond_true] at h;simp only[Bool.and_eq_true] at hc;have hlen:=Nat.eq_of_beq_eq_true hc.1;have hL:L<hp.next:=Nat.le_of_ble_eq_true hc.2;obtain⟨r,hr,hk⟩:=lT _ _ _ _ _ h;split at hk
      ·rename_i e2 h2;obtain⟨st',ku,cu⟩:=hr.keep.2 L 0 cw e ps a b hL hg;simp only[iF.heap] at cu;rw[cu] at hk;split at hk
       ·rename_i heq;simp only[Option.some.injEq,bP.loop.injEq] at heq;obtain⟨rfl,rfl,_⟩:=heq;rw[jQ] at hk;obtain⟨r',hr',hk'⟩:=lT _ _ _ _ _ hk;have N7:L<h2.next:=Nat.lt_of_lt_of_le hL hr.keep.1;split at hk'
        ·unfold vm at hk';split at hk'
         ·rename_i id A l hbx;cases hn:(aU a&&aU A) with
          |false=>rw[hn] at hk';simp at hk'
          |true=>
           rw[hn] at hk';simp only[cond_true] at hk';simp only[Bool.and_eq_true] at hn;obtain⟨rA,hrA,XS⟩:=lT _ _ _ _ _ hk';split at XS
           ·obtain⟨rl,hrl,Lj⟩:=uc _ _ _ _ _ XS;split at Lj
            ·obtain⟨l1,i,l2,tr,K0,rfl,g1,g2,g3⟩:=hrl;exact⟨_,.od hg hlen hr hn.1 cu hn.2 hrA g1 g2 g3,Lj⟩
            ·simp at Lj
           ·simp at XS
         ·simp at hk'
        ·rename_i x e4 h4 hnp;obtain⟨Ee,mc,RG⟩:=hr'.keep.2 L 1 ku e ps a b N7 (by simp[Task.heap,Heap.aT]);rw[jQ] at hk';exact⟨_,.yield hg hlen hr cu hr' (fun v hv=>hnp v hv) RG,hk'⟩
        ·simp at hk'
       ·simp at hk
      ·simp at hk
    ·simp at h
   ·simp at h
  ·rename_i f args hp;show∃r,BS fs ms (.call f args hp) r∧k r=true;split at h
   ·rename_i v h1 Ue;exact⟨_,ho _ _ _ _ _ Ue,h⟩
   split at h
   ·rename_i af Rp;split at h
    ·cases hl:Nat.ble args.length af.ntmps with
     |false=>rw[hl] at h;simp at h
     |true=>
      rw[hl] at h;simp only[cond_true,iY] at h;obtain⟨r,hr,hk⟩:=lT _ _ _ _ _ h;split at hk
      ·split at hk
       ·split at hk
        ·rename_i vs hvs;rw[vn] at hk;exact⟨_,.call Rp (Nat.le_of_ble_eq_true hl) hr (.inl rfl) hvs,hk⟩
        ·simp at hk
       ·split at hk
        ·rename_i vs hvs;rw[vn] at hk;exact⟨_,.call Rp (Nat.le_of_ble_eq_true hl) hr (.inr rfl) hvs,hk⟩
        ·simp at hk
       ·exact⟨_,.tQ Rp (Nat.le_of_ble_eq_true hl) hr,hk⟩
       ·simp at hk
      ·simp at hk
    ·rename_i d hd;obtain⟨A,l1,dst,a,rest⟩:=d;have hbody:=Ft hd;unfold NU at h;simp only at h;cases hl:(Nat.ble args.length af.ntmps&&aU A) with
     |false=>rw[hl] at h;simp at h
     |true=>
      rw[hl] at h;simp only[cond_true,iY] at h;simp only[Bool.and_eq_true] at hl;obtain⟨r1,rK,zk⟩:=lT _ _ _ _ _ h;split at zk
      ·obtain⟨r2,kN,hk2⟩:=uc _ _ _ _ _ zk;split at hk2
       ·rename_i tr e2 h2;split at hk2
        ·rename_i g first aO vC
         obtain⟨r3,x8,lS⟩:=lT _ _ _ _ _ hk2;split at lS
         ·rename_i x e3 h3;cases hx:Hx x with
          |false=>rw[hx] at lS;simp at lS
          |true=>
           rw[hx] at lS;simp only[cond_true] at lS;split at lS
           ·rename_i ag ga;split at lS
            ·rename_i t l2 dJ ZH;cases hc:(Nat.ble (first++aO).length ag.ntmps&&CK ag.results&&aU dJ&&ke l2) with
             |false=>rw[hc] at lS;simp at lS
             |true=>
              rw[hc] at lS;simp only[cond_true] at lS;simp only[Bool.and_eq_true] at hc;obtain⟨r4,A4,uG⟩:=uc _ _ _ _ _ lS;split at uG
              ·rename_i wV e4 h4;have hh:=nO hc.2 A4;subst hh;obtain⟨r5,B4,A1⟩:=lT _ _ _ _ _ uG;have Sf:x=.normal∨x=.ret∨∃v,x=.panic v:=by
                cases x with
                |normal=>exact .inl rfl
                |ret=>exact .inr (.inl rfl)
                |panic v=>exact .inr (.inr ⟨v,rfl⟩)
                |exit id=>simp[Hx] at hx
               have R1:ag.results=[]:=by
                have:=hc.1.1.2;cases CF:ag.results with
                |nil=>rfl
                |cons _ _=>rw[CF] at this;simp[CK] at this
               split at A1
               ·rename_i y e5 h5;split at A1
                ·split at A1
                 ·rename_i vs hvs;exact⟨_,.rW Rp (Nat.le_of_ble_eq_true hl.1) hbody rK hl.2 kN vC x8 Sf ga (Nat.le_of_ble_eq_true hc.1.1.1) (yH ZH) R1 hc.1.2 A4 hc.2 B4 (.inl rfl) hvs,A1⟩
                 ·simp at A1
                ·split at A1
                 ·rename_i vs hvs;exact⟨_,.rW Rp (Nat.le_of_ble_eq_true hl.1) hbody rK hl.2 kN vC x8 Sf ga (Nat.le_of_ble_eq_true hc.1.1.1) (yH ZH) R1 hc.1.2 A4 hc.2 B4 (.inr rfl) hvs,A1⟩
                 ·simp at A1
                ·simp at A1
               ·simp at A1
              ·simp at uG
            ·simp at lS
           ·simp at lS
         ·simp at lS
        ·simp at hk2
       ·simp at hk2
      ·simp at zk
   ·simp at h
  ·simp at h
end
end Ads
end Go.Proofs.YtmnolnoeibhjgaaGreat
set_option linter.unusedSimpArgs false
set_option linter.unusedVariables false
namespace Go.Proofs.YtmnolnoeibhjgaaGreat
namespace Ads
def TJ(o:PT)(args:List AV):Option (bP×(Nat→AV)):=
 match o with
 |.alloc iy=>match args with
  |[]=>some (.cells iy true 0,fun b=>.ptr b 0)
  |_=>none
 |.box=>l1 args fun v=>some (.cells v.cells true 0,fun b=>.ptr b 0)
 |o=>aI o args
theorem B9(o:PT)(args:List AV):TJ o args=aI o args:=by
 cases o
 case alloc z=>cases args<;>rfl
 case box=>rcases args with _|⟨x,_|⟨y,r⟩⟩<;>rfl
 all_goals rfl
def ZT(o:BU)(args:List AV)(h:Heap):Option AV:=
 match o with
 |.cP=>l1 args fun x=>AA x fun b o=>h.cP b o
 |.bt n=>l1 args fun x=>AA x fun b o=>(h.bt b o n).map .agg
 |o=>rI o args h
theorem Ph(o:BU)(args:List AV)(h:Heap):ZT o args h=rI o args h:=by
 cases o
 case cP=>rcases args with _|⟨x,_|⟨y,r⟩⟩<;>first|rfl|(cases x<;>rfl)
 case bt n=>rcases args with _|⟨x,_|⟨y,r⟩⟩<;>first|rfl|(cases x<;>rfl)
 all_goals rfl
def Jz(n:Nat)(args:List AV)(h:Heap)(k:AV→Heap→Bool):Bool:=
 match args with
 |[x,v]=>match x with
  |.ptr b o=>cond (Nat.beq v.cells.length n) (rF h b o v.cells fun h=>k .undef h) false
  |_=>false
 |_=>false
def Y5(o:wW)(args:List AV)(h:Heap)(k:AV→Heap→Bool):Bool:=
 match o with
 |.store n=>Jz n args h k
 |o=>QW o args h k
theorem NI(o:wW)(args:List AV)(h:Heap)(k:AV→Heap→Bool):Y5 o args h k=QW o args h k:=by
 cases o
 case store n=>rcases args with _|⟨x,_|⟨y,_|⟨z,r⟩⟩⟩<;>first|rfl|(cases x<;>rfl)
 all_goals rfl
def Yz(k:iF→Bool)(r:iF):Bool:=match r with
 |.ops tr e' h'=>k (.code .normal e' h')
 |.code (.panic v) e1 h1=>k (.code (.panic v) e1 h1)
 |_=>false
def Sk(ev:Rec)(rd:Bool)(l:List bp)(win:List (List Nat))(e:Env)(h:Heap)(k:iF→Bool)(r:iF):Bool:=match r with
 |.ops tr e' h'=>cond (pq (cA l tr h') l win tr) (k (.code .normal e' h')) false
 |.code (.panic _) _ _=>y8 ev rd l win e h k
 |_=>false
def Sn(ev:Rec)(rd:Bool)(b:AC)(k:iF→Bool)(r:iF):Bool:=match r with
 |.code .normal e1 h1=>ev (.code rd b e1 h1) k
 |.code x e1 h1=>k (.code x e1 h1)
 |_=>false
def OZ(id:Nat)(k:iF→Bool)(r:iF):Bool:=match r with
 |.code (.exit i) e1 h1=>cond (Nat.beq i id) (k (.code .normal e1 h1)) (k (.code (.exit i) e1 h1))
 |.code x e1 h1=>k (.code x e1 h1)
 |_=>false
def O0(e:Env)(ps:List Nat)(a b:AC)(L:Nat)(k:iF→Bool)(r:iF):Bool:=match r with
 |.val v h2=>match h2.get L with
  |some (.loop st none _ _ _ _)=>cond (Nat.beq st 1) false (k9 h2 L (.loop 3 none e ps a b) fun h3=>k (.code .normal e h3))
  |some (.loop st (some (.exit id)) _ _ _ _)=>cond (Nat.beq st 1) false (k9 h2 L (.loop 3 (some (.exit id)) e ps a b) fun h3=>k (.code (.exit id) e h3))
  |some (.loop st (some .ret) _ _ _ _)=>cond (Nat.beq st 1) false (k9 h2 L (.loop 3 (some .ret) e ps a b) fun h3=>k (.code .ret e h3))
  |_=>false
 |.jh v h2=>k (.code (.panic v) e h2)
 |_=>false
def Jy(ev:Rec)(rd:Bool)(g:bx)(ps:List Nat)(a b:AC)(e:Env)(h:Heap)(k:iF→Bool):Bool:=match rd,e.ev g with
 |false,.func (.func f) first aO=>newF h (.loop 0 none e ps a b) fun h1=>ev (.call f (first++(.yield h.next::aO)) h1) (O0 e ps a b h.next k)
 |_,_=>false
def NT(ev:Rec)(rd:Bool)(v:AV)(a b:AC)(e:Env)(h:Heap)(k:iF→Bool):Bool:=match v with
 |.bool t=>ev (.code rd (cond t a b) e h) k
 |_=>false
def NS(ev:Rec)(rd:Bool)(c:AC)(e:Env)(h:Heap)(k:iF→Bool):Bool:=match c with
 |.skip=>k (.code .normal e h)
 |.ops l=>ev (.ops rd l e h) (Yz k)
 |.bI l win=>ev (.ops rd l e h) (Sk ev rd l win e h k)
 |.seq a b=>ev (.code rd a e h) (Sn ev rd b k)
 |.cond c a b=>NT ev rd (e.ev c) a b e h k
 |.block id c=>ev (.code rd c e h) (OZ id k)
 |.loop c=>ev (.code rd c e h) (Sn ev rd (.loop c) k)
 |.exit id=>k (.code (.exit id) e h)
 |.ret=>k (.code .ret e h)
 |.rangeFunc g ps a b=>Jy ev rd g ps a b e h k
 |.bad=>false
def Ls(h:Heap)(vals:List AV)(v:AV)(on:Bool)(k:iF→Bool)(r:iF):Bool:=match r with
 |.ops tr e' h'=>k (.ops (⟨h,vals,v,on⟩::tr) e' h')
 |.code (.panic v) e1 h2=>k (.code (.panic v) e1 h2)
 |_=>false
def YA(ev:Rec)(rd:Bool)(i:bp)(l:List bp)(e:Env)(h:Heap)(k:iF→Bool)(r:iF):Bool:=match r with
 |.val v h1=>gE e i.dst v fun e1=>ev (.ops rd l e1 h1) (Ls h (i.args.map e.ev) v true k)
 |.jh v h2=>k (.code (.panic v) e h2)
 |_=>false
def Q2(ev:Rec)(rd:Bool)(l:List bp)(e:Env)(h:Heap)(k:iF→Bool):Bool:=match l with
 |[]=>k (.ops [] e h)
 |i::l=>cond (bO i e) (ev (.op rd i.op (i.args.map e.ev) h) (YA ev rd i l e h k))
   (gE e i.dst .undef fun e1=>ev (.ops rd l e1 h) (Ls h (i.args.map e.ev) .undef false k))
def So(h:Heap)(k:iF→Bool)(o:Option AV):Bool:=match o with
 |some v=>fV v fun v=>k (.val v h)
 |none=>false
def Sl(h:Heap)(k:iF→Bool)(o:Option (bP×(Nat→AV))):Bool:=match o with
 |some (x,f)=>fV (f h.next) fun v=>newF h x fun h1=>k (.val v h1)
 |none=>false
def Jv(ev:Rec)(vals:List AV)(h:Heap)(k:iF→Bool):Bool:=match vals with
 |fv::args=>ev (.cK fv args h) k
 |[]=>false
section
variable (fs:Nat→Option aj) (ms:Nat→String→Option Nat) (mA:B8)
def Q1(ev:Rec)(name:String)(vals:List AV)(h:Heap)(k:iF→Bool):Bool:=match vals with
 |.iface t x::args=>match ms t name with
  |some f=>ev (.call f (x::args) h) k
  |none=>false
 |_=>false
def Gt(ev:Rec)(o:fG)(vals:List AV)(h:Heap)(k:iF→Bool):Bool:=match o with
 |.p o=>So h k (Kh o vals)
 |.a o=>Sl h k (TJ o vals)
 |.r o=>So h k (ZT o vals h)
 |.e o=>Y5 o vals h fun v h1=>fV v fun v=>k (.val v h1)
 |.call=>Jv ev vals h k
 |.invoke name=>Q1 ms ev name vals h k
 |.panic=>Gu vals h k
 |_=>false
def JZ(ev:Rec)(e2:Env)(h3:Heap)(h:Heap)(L:Nat)(e:Env)(ps:List Nat)(a b:AC)(k:iF→Bool)(r:iF):Bool:=match r with
 |.code (.panic _) _ _=>vm ev a b e2 h3 k
 |.code x e4 h4=>k9 h4 L (.loop (cond x.bB 0 2) (cU x) e ps a b) fun h5=>k (.val (.bool x.bB) h5)
 |_=>false
def JY(ev:Rec)(h:Heap)(L:Nat)(e:Env)(ps:List Nat)(a b:AC)(k:iF→Bool)(r:iF):Bool:=match r with
 |.code .normal e2 h2=>match h2.get L with
  |some (.loop 0 bW _ _ _ _)=>k9 h2 L (.loop 1 bW e ps a b) fun h3=>ev (.code true b e2 h3) (JZ ev e2 h3 h L e ps a b k)
  |_=>false
 |_=>false
def JA(ev:Rec)(L:Nat)(args:List AV)(h:Heap)(k:iF→Bool):Bool:=match h.get L with
 |some (.loop 0 cw e ps a b)=>cond (Nat.beq args.length ps.length&&Nat.ble (L+1) h.next)
   (ev (.code true a (eW ps args e) h) (JY ev h L e ps a b k)) false
 |_=>false
def Jx(ev:Rec)(fv:AV)(args:List AV)(h:Heap)(k:iF→Bool):Bool:=match fv with
 |.func (.func f) first aO=>ev (.call f (first++(args++aO)) h) k
 |.yield L=>JA ev L args h k
 |_=>false
def YB(rs:List qv)(e:Env)(h:Heap)(k:iF→Bool):Bool:=match eA e h rs with
 |some vs=>fV (cB vs) fun v=>k (.val v h)
 |none=>false
def Yy(rs:List qv)(k:iF→Bool)(r:iF):Bool:=match r with
 |.code x e h1=>match x with
  |.normal|.ret=>YB rs e h1 k
  |.panic v=>k (.jh v h1)
  |_=>false
 |_=>false
def NQ(ev:Rec)(af:aj)(args:List AV)(h:Heap)(k:iF→Bool):Bool:=
 cond (Nat.ble args.length af.ntmps) (lK af.ntmps args fun e0=>ev (.code false af.body e0 h) (Yy af.results k)) false
def Q3{β:Type}:Tr β→(Tr β→Bool)→Bool
 |.nil,k=>k .nil
 |.node l v r,k=>Q3 l fun l=>Q3 r fun r=>match v with
  |none=>k (.node l none r)
  |some x=>k (.node l (some x) r)
theorem Cq{β:Type}:∀(t:Tr β) (k:Tr β→Bool),Q3 t k=k t
 |.nil,k=>rfl
 |.node l v r,k=>by
  simp only[Q3];rw[Cq l,Cq r];cases v<;>rfl
def TN(h:Heap)(k:Heap→Bool):Bool:=match h with
 |⟨n,m⟩=>oS n fun n=>Q3 m fun m=>k ⟨n,m⟩
theorem Gx(h:Heap)(k:Heap→Bool):TN h k=k h:=by cases h;simp only[TN,uF,Cq]
def Jw(ev:Rec)(f:Nat)(args:List AV)(h:Heap)(k:iF→Bool):Bool:=match fs f with
 |some af=>match zX af.body with
  |none=>NQ ev af args h k
  |some d=>NU fs ev d af args h k
 |none=>false
def Gr(ev:Rec)(f:Nat)(args:List AV)(h:Heap)(k:iF→Bool):Bool:=match mA f args h with
 |some (v,h1)=>TN h1 fun h1=>k (.val v h1)
 |none=>Jw fs ev f args h k
def tf(ev:Rec)(t:Task)(k:iF→Bool):Bool:=match t with
 |.code rd c e h=>NS ev rd c e h k
 |.ops rd l e h=>Q2 ev rd l e h k
 |.op rd o vals h=>Gt ms ev o vals h k
 |.cK fv args h=>Jx ev fv args h k
 |.call f args h=>Gr fs mA ev f args h k
 |.any ..=>false
def EN:Nat→Rec
 |0=>fun _ _=>false
 |n+1=>fun t k=>tf fs ms mA (EN n) t k
theorem Gs:∀n,EN fs ms mA n=ev fs ms mA n
 |0=>by funext t k;rfl
 |n+1=>by
  funext t k
  simp only[EN,Gs n];cases t with
  |code rd c e h=>
   cases c<;>rfl
  |ops rd l e h=>cases l<;>rfl
  |op rd o vals h=>
   cases o
   case p o=>simp only[tf,Gt,CU];rfl
   case a o=>simp only[tf,Gt,B9];rfl
   case r o=>simp only[tf,Gt,Ph];rfl
   case e o=>simp only[tf,Gt,NI];rfl
   all_goals rfl
  |cK fv args h=>cases fv<;>rfl
  |call f args h=>
   simp only[tf,Gr,Gx];rfl
  |any rd c e h=>rfl
end
theorem oR{fs:Nat→Option aj}{ms:Nat→String→Option Nat}{mA:B8}{n:Nat}{t:Task}{k:iF→Bool}(h:EN fs ms mA n t k=true):ev fs ms mA n t k=true:=by
 rw[←Gs];exact h
end Ads
end Go.Proofs.YtmnolnoeibhjgaaGreat
set_option linter.unusedSimpArgs false
set_option linter.unusedVariables false
namespace Go.Proofs.YtmnolnoeibhjgaaGreat
namespace Ads
def I8(q:Nat→aj→Prop):List (Nat×aj)→Prop
 |[]=>True
 |p::l=>q p.1 p.2∧I8 q l
def Sy:List (Nat×aj)→Tr aj
 |[]=>.nil
 |p::l=>(Sy l).set p.1 p.2
theorem sC{q:Nat→aj→Prop}:∀{l:List (Nat×aj)},I8 q l→∀{f:Nat} {af:aj},(Sy l).get f=some af→q f af
 |[],_,f,af,h=>by simp[Sy,Tr.get] at h
 |p::l,hq,f,af,h=>by
  simp only[Sy,Tr.aT] at h;split at h
  ·rename_i he;cases h
   rw[he];exact hq.1
  ·exact sC hq.2 h
section
variable {P:Program} {fs:Nat→Option aj} {ms:Nat→String→Option Nat}
theorem EZ(H0:Nat)(ρ:cG)(w:World)(hl:H0≤w.heap.size):Inv P H0 ρ (fun _=>False) ⟨0,.nil⟩ w:=
 ⟨fun b hb=>hb.elim,fun b _=>rfl,hl,fun b x hb _=>hb.elim,fun b b' hb _ _ _ _=>hb.elim⟩
structure Kept(w w':World):Prop where
 size:w.heap.size≤w'.heap.size
 old:∀r:Nat,r<w.heap.size→w'.heap[r]?=w.heap[r]?
 tape:w'.tape=w.tape
 os:w'.os=w.os
 output:w'.output=w.output
theorem BS.calls(sys:kW P fs ms){f:Nat}{args:List AV}{v:AV}{h1:Heap}(h:BS fs ms (.call f args ⟨0,.nil⟩) (.val v h1))(ha:bl (fun _=>False) args)(w:World):
  Calls P f (aq default args).toArray w fun e w'=>∃ρ,e=.returned (real ρ v)∧Kept w w':=by
 have hs:=(h.sound sys w.heap.size).1;have:=hs default (fun _=>False) w 0 (EZ _ _ w (Nat.le_refl _)) ha;rw[callsIn_wide] at this;refine this.mono ?_;rintro e w' ⟨ρ',rfl,hi,hx,hv⟩;exact⟨ρ',rfl,hx.size,fun r hr=>hx.frame r hr (fun b hb=>hb.elim),hx.tape,hx.os,hx.output⟩
def isTrue:iF→Bool
 |.val (.bool true) _=>true
 |_=>false
theorem Dy{mA:B8}(ho:qC fs ms mA){n f:Nat}{h:Heap}(he:ev fs ms mA n (.call f [] h) isTrue=true):∃h1,BS fs ms (.call f [] h) (.val (.bool true) h1):=by
 obtain⟨r,hr,hk⟩:=je ho n _ _ he;cases r with
 |val v h1=>
  cases v with
  |bool b=>cases b with
   |true=>exact⟨h1,hr⟩
   |false=>simp[isTrue] at hk
  |_=>simp[isTrue] at hk
 |_=>simp[isTrue] at hk
end
end Ads
end Go.Proofs.YtmnolnoeibhjgaaGreat
set_option linter.unusedSimpArgs false
set_option linter.unusedVariables false
namespace Go.Proofs.YtmnolnoeibhjgaaGreat
namespace Ads
def JD{α:Type}:List AV→(List AV→α)→α
 |[],k=>k []
 |v::vs,k=>fC v fun v=>JD vs fun vs=>k (v::vs)
theorem y9{α:Type}:∀(l:List AV) (k:List AV→α),JD l k=k l
 |[],k=>rfl
 |v::vs,k=>by simp[JD,AG,y9 vs]
section
variable (fs:Nat→Option aj) (ms:Nat→String→Option Nat) (rd:Bool)
abbrev yZ(t:Bool)(A B:Prop):Prop:=@Bool.rec (fun _=>Prop) B A t
def Comes(c:AC)(e:Env)(h:Heap)(Q:AX→Env→Heap→Prop):Prop:=∃x e' h',BS fs ms (.code rd c e h) (.code x e' h')∧Q x e' h'
def uQ(l:List bp)(e:Env)(h:Heap)(Q:Env→Heap→Prop):Prop:=∃tr e' h',BS fs ms (.ops rd l e h) (.ops tr e' h')∧Q e' h'
def xE(f:Nat)(args:List AV)(h:Heap)(Q:AV→Heap→Prop):Prop:=∃v h',BS fs ms (.call f args h) (.val v h')∧Q v h'
def Px(o:pQ)(vals:List AV):Bool:=
 match o with
 |.bin op=>match vals with
  |.str _::_=>match op with
   |.add=>false
   |_=>true
  |_=>match op with
   |.quo|.rem|.shl|.shr=>false
   |_=>true
 |.aB _|.jD _ _|.Ba _ _ _|.CH|.slice _ _ _ _|.gN _ _|.iL _ _ _ _ _=>false
 |_=>true
def wpOp(o:fG)(vals:List AV)(h:Heap)(k:AV→Heap→Prop):Prop:=
 match o with
 |.p .pick=>match vals with
  |[.bool c,a,b]=>yZ c (fC a fun v=>k v h) (fC b fun v=>k v h)
  |_=>False
 |.p o=>match Px o vals with
  |true=>match Kh o vals with
   |some v=>fC v fun v=>k v h
   |none=>False
  |false=>∃v,Kh o vals=some v∧fC v fun v=>k v h
 |.a o=>match TJ o vals with
  |some (x,f)=>k (f h.next) (h.new x)
  |none=>False
 |.r o=>∃v,rI o vals h=some v∧k v h
 |.e o=>∃v h1,eI o vals h=some (v,h1)∧k v h1
 |.call=>match vals with
  |.func (.func f) first aO::args=>xE fs ms f (first++(args++aO)) h k
  |fv::args=>∃v h1,BS fs ms (.cK fv args h) (.val v h1)∧k v h1
  |[]=>False
 |.invoke name=>match vals with
  |.iface t x::args=>match ms t name with
   |some f=>xE fs ms f (x::args) h k
   |none=>False
  |_=>False
 |_=>False
def FA:List bp→Env→Heap→(Env→Heap→Prop)→Prop
 |[],e,h,k=>k e h
 |i::l,e,h,k=>match i.guard with
  |none=>JD (i.args.map e.ev) fun vals=>wpOp fs ms i.op vals h fun v h1=>gE e i.dst v fun e1=>FA l e1 h1 k
  |some (d,want)=>match e.get d with
   |.bool b=>match want with
    |true=>yZ b (JD (i.args.map e.ev) fun vals=>wpOp fs ms i.op vals h fun v h1=>gE e i.dst v fun e1=>FA l e1 h1 k) (gE e i.dst .undef fun e1=>FA l e1 h k)
    |false=>yZ b (gE e i.dst .undef fun e1=>FA l e1 h k) (JD (i.args.map e.ev) fun vals=>wpOp fs ms i.op vals h fun v h1=>gE e i.dst v fun e1=>FA l e1 h1 k)
   |_=>gE e i.dst .undef fun e1=>FA l e1 h k
def Dk:AC→Env→Heap→(AX→Env→Heap→Prop)→Prop
 |.skip,e,h,k=>k .normal e h
 |.ops l,e,h,k=>FA fs ms l e h fun e h=>k .normal e h
 |.bI l win,e,h,k=>match win.all (·.isEmpty) with
  |true=>FA fs ms l e h fun e h=>k .normal e h
  |false=>∃tr e' h',BS fs ms (.ops rd l e h) (.ops tr e' h')∧lF l win tr h'∧k .normal e' h'
 |.seq a b,e,h,k=>Dk a e h fun x e1 h1=>match x with
  |.normal=>Dk b e1 h1 k
  |x=>k x e1 h1
 |.cond c a b,e,h,k=>match e.ev c with
  |.bool t=>yZ t (Dk a e h k) (Dk b e h k)
  |_=>False
 |.block id c,e,h,k=>Dk c e h fun x e1 h1=>match x with
  |.exit i=>match Nat.beq i id with
   |true=>k .normal e1 h1
   |false=>k (.exit i) e1 h1
  |x=>k x e1 h1
 |.loop c,e,h,k=>Comes fs ms rd (.loop c) e h k
 |.rangeFunc f ps a b,e,h,k=>Comes fs ms rd (.rangeFunc f ps a b) e h k
 |.exit id,e,h,k=>k (.exit id) e h
 |.ret,e,h,k=>k .ret e h
 |.bad,_,_,_=>False
end
section
variable {fs:Nat→Option aj} {ms:Nat→String→Option Nat} {rd:Bool}
theorem wP{o:fG}{vals:List AV}{h:Heap}{k:AV→Heap→Prop}(hw:wpOp fs ms o vals h k):∃v h1,BS fs ms (.op rd o vals h) (.val v h1)∧k v h1:=by
 unfold wpOp at hw;split at hw
 ·split at hw
  ·rename_i c a b;cases c with
   |true=>exact⟨_,_,.B6 (v:=a) rfl,by rw[←AG a fun v=>k v h];exact hw⟩
   |false=>exact⟨_,_,.B6 (v:=b) rfl,by rw[←AG b fun v=>k v h];exact hw⟩
  ·exact hw.elim
 ·split at hw
  ·split at hw
   ·rename_i v hv;rw[CU] at hv;rw[AG] at hw;exact⟨_,_,.B6 hv,hw⟩
   ·exact hw.elim
  ·obtain⟨v,hv,hw⟩:=hw;rw[CU] at hv;rw[AG] at hw;exact⟨_,_,.B6 hv,hw⟩
 ·split at hw
  ·rename_i x f hv;rw[B9] at hv;exact⟨_,_,.Kc hv,hw⟩
  ·exact hw.elim
 ·obtain⟨v,hv,hk⟩:=hw;exact⟨_,_,.DT hv,hk⟩
 ·obtain⟨v,h1,hv,hk⟩:=hw;exact⟨_,_,.rL hv,hk⟩
 ·split at hw
  ·obtain⟨v,h1,hb,hk⟩:=hw;exact⟨_,_,.jH (.cK hb),hk⟩
  ·obtain⟨v,h1,hb,hk⟩:=hw;exact⟨_,_,.jH hb,hk⟩
  ·exact hw.elim
 ·split at hw
  ·split at hw
   ·rename_i f hf;obtain⟨v,h1,hb,hk⟩:=hw;exact⟨_,_,.jX hf hb,hk⟩
   ·exact hw.elim
  ·exact hw.elim
 ·exact hw.elim
theorem kU:∀{l:List bp} {e:Env} {h:Heap} {k:Env→Heap→Prop},FA fs ms l e h k→uQ fs ms rd l e h k
 |[],e,h,k,hw=>⟨_,_,_,.nil,hw⟩
 |i::l,e,h,k,hw=>by
  unfold FA at hw;split at hw
  ·rename_i hg;rw[y9] at hw;obtain⟨v,h1,hb,hk⟩:=wP (rd:=rd) hw;rw[fy] at hk;obtain⟨tr,e',h',hl,hk⟩:=kU hk;exact⟨_,_,_,.on (by simp[bO,hg]) hb hl,hk⟩
  ·rename_i d want hg;split at hw
   ·rename_i b hb;have gb:b=want→(JD (i.args.map e.ev) fun vals=>wpOp fs ms i.op vals h fun v h1=>gE e i.dst v fun e1=>FA fs ms l e1 h1 k)→uQ fs ms rd (i::l) e h k:=by
     intro XB hw;rw[y9] at hw;obtain⟨v,h1,hb',hk⟩:=wP (rd:=rd) hw;rw[fy] at hk;obtain⟨tr,e',h',hl,hk⟩:=kU hk;exact⟨_,_,_,.on (by simp[bO,hg,hb,XB]) hb' hl,hk⟩
    have hoff:b=!want→(gE e i.dst .undef fun e1=>FA fs ms l e1 h k)→uQ fs ms rd (i::l) e h k:=by
     intro XB hk;rw[fy] at hk;obtain⟨tr,e',h',hl,hk⟩:=kU hk;exact⟨_,_,_,.off (by simp[bO,hg,hb,XB]) hl,hk⟩
    cases want<;>cases b
    ·exact gb rfl hw
    ·exact hoff rfl hw
    ·exact hoff rfl hw
    ·exact gb rfl hw
   ·rename_i hne;rw[fy] at hw;obtain⟨tr,e',h',hl,hk⟩:=kU hw;refine⟨_,_,_,.off ?_ hl,hk⟩;unfold bO;rw[hg];cases hv:e.get d with
    |bool b=>exact absurd hv (hne b)
    |_=>simp only[hv]
theorem sL{u:Nat→Heap}:∀{l:List bp} {win:List (List Nat)} {tr:List aK},win.all (·.isEmpty)=true→cz u l win tr
 |[],_,_,_=>by simp[cz]
 |_::_,[],_,_=>by simp[cz]
 |_::_,_::_,[],_=>by simp[cz]
 |x::l,cs::win,m::tr,h=>by
  simp only[List.all_cons,Bool.and_eq_true] at h;simp only[cz];refine⟨?_,sL h.2⟩;split
  ·intro _ c hc;rw[List.isEmpty_iff.1 h.1] at hc;simp at hc
  ·trivial
theorem jJ:∀{c:AC} {e:Env} {h:Heap} {k:AX→Env→Heap→Prop},Dk fs ms rd c e h k→Comes fs ms rd c e h k
 |.skip,e,h,k,hw=>⟨_,_,_,.skip,hw⟩
 |.ops l,e,h,k,hw=>by
  obtain⟨tr,e',h',hb,hk⟩:=kU (rd:=rd) (show FA fs ms l e h _ from hw);exact⟨_,_,_,.ops hb,hk⟩
 |.bI l win,e,h,k,hw=>by
  unfold Dk at hw;split at hw
  ·rename_i tC;obtain⟨tr,e',h',hb,hk⟩:=kU (rd:=rd) hw;exact⟨_,_,_,.bI hb (sL tC),hk⟩
  ·obtain⟨tr,e',h',hb,hr,hk⟩:=hw;exact⟨_,_,_,.bI hb hr,hk⟩
 |.seq a b,e,h,k,hw=>by
  obtain⟨x,e1,h1,hb,hk⟩:=jJ (show Dk fs ms rd a e h _ from hw);cases x with
  |normal=>
   obtain⟨x2,e2,h2,gn,hk2⟩:=jJ (show Dk fs ms rd b e1 h1 k from hk);exact⟨_,_,_,.wC hb gn,hk2⟩
  |exit i=>exact⟨_,_,_,.oz hb rfl,hk⟩
  |ret=>exact⟨_,_,_,.oz hb rfl,hk⟩
  |panic v=>exact⟨_,_,_,.oz hb rfl,hk⟩
 |.cond c a b,e,h,k,hw=>by
  unfold Dk at hw;split at hw
  ·rename_i t ht;cases t with
   |true=>
    obtain⟨x,e1,h1,hb,hk⟩:=jJ (show Dk fs ms rd a e h k from hw);exact⟨_,_,_,.cond ht hb,hk⟩
   |false=>
    obtain⟨x,e1,h1,hb,hk⟩:=jJ (show Dk fs ms rd b e h k from hw);exact⟨_,_,_,.cond ht hb,hk⟩
  ·exact hw.elim
 |.block id c,e,h,k,hw=>by
  obtain⟨x,e1,h1,hb,hk⟩:=jJ (show Dk fs ms rd c e h _ from hw);cases x with
  |exit i=>
   simp only at hk;split at hk
   ·rename_i K7;have:=Nat.eq_of_beq_eq_true K7;subst this;exact⟨_,_,_,.nw hb,hk⟩
   ·rename_i K7;refine⟨_,_,_,.eR hb ?_,hk⟩;intro j hj hji;simp only[AX.exit.injEq] at hj;subst hj hji;simp at K7
  |normal=>exact⟨_,_,_,.eR hb (by simp),hk⟩
  |ret=>exact⟨_,_,_,.eR hb (by simp),hk⟩
  |panic v=>exact⟨_,_,_,.eR hb (by simp),hk⟩
 |.loop c,e,h,k,hw=>hw
 |.rangeFunc f ps a b,e,h,k,hw=>hw
 |.exit id,e,h,k,hw=>⟨_,_,_,.exit,hw⟩
 |.ret,e,h,k,hw=>⟨_,_,_,.ret,hw⟩
 |.bad,e,h,k,hw=>hw.elim
theorem br{t:Bool}{A B:Prop}(h1:t=true→A)(h2:t=false→B):@Bool.rec (fun _=>Prop) B A t:=by
 cases t with
 |true=>exact h1 rfl
 |false=>exact h2 rfl
def NM(af:aj)(Q:AV→Heap→Prop):AX→Env→Heap→Prop:=fun x e h=>match x with
 |.normal|.ret=>match eA e h af.results with
  |some vs=>JD vs fun vs=>match vs with
   |[v]=>Q v h
   |vs=>Q (.dO vs) h
  |none=>False
 |_=>False
theorem QX{Q:AV→Heap→Prop}{vs:List AV}{h:Heap}(hk:JD vs fun vs=>match vs with
   |[v]=>Q v h
   |vs=>Q (.dO vs) h):Q (cB vs) h:=by
 rw[y9] at hk;rcases vs with _|⟨v,_|⟨u,r⟩⟩<;>exact hk
theorem Y2{f:Nat}{af:aj}{args:List AV}{h:Heap}{Q:AV→Heap→Prop}(hf:fs f=some af)(hlen:args.length≤af.ntmps)
  (hw:lK af.ntmps args fun e=>Dk fs ms false af.body e h (NM af Q)):xE fs ms f args h Q:=by
 rw[iY] at hw;obtain⟨x,e1,h1,hb,hk⟩:=jJ hw;cases x with
 |normal=>
  simp only[NM] at hk;split at hk
  ·rename_i vs hvs;exact⟨_,_,.call hf hlen hb (.inl rfl) hvs,QX hk⟩
  ·exact hk.elim
 |ret=>
  simp only[NM] at hk;split at hk
  ·rename_i vs hvs;exact⟨_,_,.call hf hlen hb (.inr rfl) hvs,QX hk⟩
  ·exact hk.elim
 |exit i=>exact hk.elim
 |panic v=>exact hk.elim
theorem xE.mono{f:Nat}{args:List AV}{h:Heap}{Q Q':AV→Heap→Prop}(hc:xE fs ms f args h Q)(hq:∀v h',Q v h'→Q' v h'):xE fs ms f args h Q':=by
 obtain⟨v,h',hb,hk⟩:=hc;exact⟨v,h',hb,hq v h' hk⟩
theorem Comes.mono{c:AC}{e:Env}{h:Heap}{Q Q':AX→Env→Heap→Prop}(hc:Comes fs ms rd c e h Q)(hq:∀x e' h',Q x e' h'→Q' x e' h'):Comes fs ms rd c e h Q':=by
 obtain⟨x,e',h',hb,hk⟩:=hc;exact⟨x,e',h',hb,hq x e' h' hk⟩
theorem ND{c:AC}{e:Env}{h:Heap}{Q:AX→Env→Heap→Prop}
  (hw:Dk fs ms rd c e h fun x e1 h1=>match x with|.normal=>Comes fs ms rd (.loop c) e1 h1 Q|x=>Q x e1 h1):Comes fs ms rd (.loop c) e h Q:=by
 obtain⟨x,e1,h1,hb,hk⟩:=jJ hw;cases x with
 |normal=>
  obtain⟨x2,e2,h2,gn,hk2⟩:=hk;exact⟨_,_,_,.lE hb gn,hk2⟩
 |exit i=>exact⟨_,_,_,.cT hb rfl,hk⟩
 |ret=>exact⟨_,_,_,.cT hb rfl,hk⟩
 |panic v=>exact⟨_,_,_,.cT hb rfl,hk⟩
def sk:Nat→(Nat→Option AV)→Env
 |0,_=>.nil
 |d+1,g=>.node (sk d fun j=>g (2*j+1)) (g 0) (sk d fun j=>g (2*j+2))
def isFull:Nat→Env→Bool
 |0,.nil=>true
 |d+1,.node l _ r=>cond (isFull d l) (isFull d r) false
 |_,_=>false
theorem Db:∀(d:Nat) (e:Env),isFull d e=true→sk d (Tr.get e)=e
 |0,.nil,_=>rfl
 |0,.node _ _ _,h=>by simp[isFull] at h
 |d+1,.nil,h=>by simp[isFull] at h
 |d+1,.node l v r,h=>by
  simp only[isFull] at h;cases hl:isFull d l with
  |false=>rw[hl] at h;simp at h
  |true=>
   rw[hl] at h;simp only[cond_true] at h;have h1:(fun j=>(Tr.node l v r).get (2*j+1))=Tr.get l:=by
    funext j
    rw[Tr.gZ _ _ (by omega)];simp only[Tr.left]
    congr 1
    omega
   have h2:(fun j=>(Tr.node l v r).get (2*j+2))=Tr.get r:=by
    funext j
    rw[Tr.eT _ _ (by omega) (by omega)];simp only[Tr.right]
    congr 1
    omega
   simp only[sk];rw[h1,h2,Db d l hl,Db d r h];simp[Tr.get]
def kn(l:List (Nat×AV))(g:Nat→Option AV)(i:Nat):Option AV:=
 match l with
 |[]=>g i
 |(j,v)::r=>cond (Nat.beq i j) (some v) (kn r g i)
def bQ(e:Env):List (Nat×AV)→Prop
 |[]=>True
 |(i,v)::l=>Tr.get e i=some v∧bQ e l
theorem HA{e:Env}:∀{l:List (Nat×AV)},bQ e l→∀i,kn l (Tr.get e) i=Tr.get e i
 |[],_,i=>rfl
 |(j,v)::r,h,i=>by
  simp only[kn];cases hb:Nat.beq i j with
  |false=>exact HA h.2 i
  |true=>
   have:=Nat.eq_of_beq_eq_true hb;subst this;exact h.1.symm
theorem SQ{P:Env→Prop}{e:Env}(d:Nat)(l:List (Nat×AV))(hf:isFull d e=true)(hl:bQ e l)(hc:∀g,P (sk d (kn l g))):P e:=by
 have:=hc (Tr.get e)
 rwa [show kn l (Tr.get e)=Tr.get e from funext (HA hl),Db d e hf] at this
theorem QV{c:AC}{e:Env}{h:Heap}{Q:AX→Env→Heap→Prop}(d:Nat)(l:List (Nat×AV))(hf:isFull d e=true)(hl:bQ e l)
  (hc:∀g,Comes fs ms rd c (sk d (kn l g)) h Q):Comes fs ms rd c e h Q:=SQ (P:=fun e=>Comes fs ms rd c e h Q) d l hf hl hc
end
end Ads
end Go.Proofs.YtmnolnoeibhjgaaGreat
