/-
  The pure operations once more, one small function each: for the kernel, that copies what it opens.
  An evaluator of big steps for Lean's kernel: continuations, data worked out before it is handed on. It is sound.
  The evaluator: loops' records are kept; comparing; the evaluator itself, and that it is sound.
  The evaluator itself, and that it is sound.
  The evaluator in small pieces: for the kernel, that copies what it opens.
  Tables of compiled functions; what a closed run comes to in the model.
  What code must come to, as a proposition that is worked out from the code: for functions whose arguments are not known.
-/
import Derived.Test.YtecdcefacdodgaaAdsMain
set_option linter.unusedSimpArgs false
set_option linter.unusedVariables false
namespace Go.Proofs.Ytecdcefacdodgaa
namespace Ads
def l1{α:Type}(args:List AV)(f:AV→Option α):Option α:=match args with
 |[x]=>f x
 |_=>none
def l2{α:Type}(args:List AV)(f:AV→AV→Option α):Option α:=match args with
 |[x,y]=>f x y
 |_=>none
def l3{α:Type}(args:List AV)(f:AV→AV→AV→Option α):Option α:=match args with
 |[x,y,z]=>f x y z
 |_=>none
def lc{α:Type}(args:List AV)(f:AV→List AV→Option α):Option α:=match args with
 |x::r=>f x r
 |_=>none
def xG{α:Type}(v:AV)(f:IntKind→Int→Option α):Option α:=match v with
 |.int k n=>f k n
 |_=>none
def EG{α:Type}(v:AV)(f:Bool→Option α):Option α:=match v with
 |.bool b=>f b
 |_=>none
def C6{α:Type}(v:AV)(f:List UInt8→Option α):Option α:=match v with
 |.str s=>f s
 |_=>none
def Bb{α:Type}(v:AV)(f:Nat→Nat→Option α):Option α:=match v with
 |.ptr b o=>f b o
 |_=>none
def Lz{α:Type}(v:AV)(f:List AV→Option α):Option α:=match v with
 |.agg cs=>f cs
 |_=>none
def N7{α:Type}(v:AV)(f:List AV→Option α):Option α:=match v with
 |.cC cs=>f cs
 |_=>none
def Qk{α:Type}(v:AV)(f:Nat→Nat→Nat→Nat→Bool→Option α)(g:Option α):Option α:=match v with
 |.sl b o l c op=>f b o l c op
 |.aq=>g
 |_=>none
def s9{α:Type}(v:AV)(f:Nat→Option α):Option α:=match asNat v with
 |some n=>f n
 |none=>none
def AU(op:BinOp)(x y:AV):Option AV:=
 match x with
 |.int k a=>xG y fun k' b=>cond (iN op) (ld op k a b) (cond (decide (k=k')) (qT op k a b) none)
 |.str a=>C6 y fun b=>zx op a b
 |_=>none
def Ea(size:Nat)(lo hi m:Bool)(x:AV)(r:List AV):Option AV:=
 match x with
 |.fe a=>(match bounds 0 0 lo hi m r with
  |some _=>some (.fe a)
  |none=>none)
 |.rest b o k=>(match bounds 0 0 lo hi m r with
  |some _=>cond m none (some (.rest b o k))
  |none=>none)
 |x=>Qk x (fun b o len cap jl=>match bounds len cap lo hi m r with
  |some (l,h,mm)=>cond (Nat.beq mm l&&Nat.beq cap mm&&(jl&&!m&&!Nat.beq l 0)) (some (.rest b o (l*size))) (some (.sl b (o+cond (Nat.beq mm l) 0 (l*size)) (h-l) (mm-l) (cond m false jl)))
  |none=>none) (match bounds 0 0 lo hi m r with
  |some _=>some .aq
  |none=>none)
def KF(o:pR)(args:List AV):Option AV:=
 match o with
 |.Jk=>l1 args some
 |.pick=>l3 args fun c a b=>EG c fun c=>some (cond c a b)
 |.bin op=>l2 args (AU op)
 |.eq k=>l2 args fun x y=>(C9 k x y).map .bool
 |.neq k=>l2 args fun x y=>(C9 k x y).map fun b=>.bool !b
 |.not=>l1 args fun x=>EG x fun b=>some (.bool !b)
 |.neg=>l1 args fun x=>xG x fun k n=>some (.int k (k.wrap (0-n)))
 |.Fm=>l1 args fun x=>C6 x fun s=>some (.str s)
 |.conv k=>l1 args fun x=>xG x fun _ n=>some (.int k (k.wrap n))
 |.field off n g=>l1 args fun x=>Lz x fun cs=>part cs off n g
 |.ext i=>l1 args fun x=>N7 x fun vs=>vs[i]?
 |.oY=>l1 args fun x=>Bb x fun b o=>some (.ptr b o)
 |.vE off=>l1 args fun x=>Bb x fun b o=>some (.ptr b (o+off))
 |.aH size=>l2 args fun x i=>Qk x (fun b o len _ _=>s9 i fun i=>cond (Nat.ble (i+1) len) (some (.ptr b (o+i*size))) none) none
 |.ig size len=>l2 args fun x i=>Bb x fun b o=>s9 i fun i=>cond (Nat.ble (i+1) len) (some (.ptr b (o+i*size))) none
 |.Ga size len g=>l2 args fun x i=>Lz x fun cs=>s9 i fun i=>cond (Nat.ble (i+1) len) (part cs (i*size) size g) none
 |.Gb=>l2 args fun x i=>C6 x fun s=>s9 i fun i=>(s[i]?).map fun b=>.int .u8 b.toNat
 |.build gH parts=>(fill gH parts args).map .agg
 |.uY t=>l1 args fun x=>some (.iface t x)
 |.gL fn n=>some (.func fn (args.take n) (args.drop n))
 |.cA=>l1 args fun x=>match x with
  |.fe _=>some (.int .i64 0)
  |.rest _ _ _=>some (.int .i64 0)
  |x=>Qk x (fun _ _ len _ _=>some (.int .i64 len)) (some (.int .i64 0))
 |.Aa=>l1 args fun x=>C6 x fun s=>some (.int .i64 s.length)
 |.Gd n=>some (.int .i64 n)
 |.mx=>lc args fun x r=>kj max2 x r
 |.mn=>lc args fun x r=>kj min2 x r
 |.slice size lo hi m=>lc args fun x r=>Ea size lo hi m x r
 |.lQ lo hi=>lc args fun x r=>C6 x fun s=>match bounds s.length s.length lo hi false r with
  |some (l,h,_)=>some (.str ((s.take h).drop l))
  |none=>none
 |.gW size len lo hi m=>lc args fun x r=>Bb x fun b o=>match bounds len len lo hi m r with
  |some (l,h,mm)=>some (.sl b (o+cond (Nat.beq mm l) 0 (l*size)) (h-l) (mm-l) false)
  |none=>none
 |.qu t ok zero=>l1 args fun x=>match x with
  |.iface u v=>cond (Nat.beq u t) (some (cond ok (.cC [v,.bool true]) v)) (cond ok (some (.cC [zero,.bool false])) none)
  |.iQ=>cond ok (some (.cC [zero,.bool false])) none
  |_=>none
theorem EA(op:BinOp)(x y:AV):AU op x y=xA op x y:=by
 cases x<;>cases y<;>rfl
theorem DP(o:pR)(args:List AV):KF o args=pI o args:=by
 cases o
 case build z ps=>rfl
 case gL fn n=>rfl
 case Gd n=>rfl
 case bin op=>rcases args with _|⟨x,_|⟨y,_|⟨z,r⟩⟩⟩<;>first|rfl|exact EA op x y
 case mx=>cases args<;>rfl
 case mn=>cases args<;>rfl
 case slice size lo hi m=>rcases args with _|⟨x,r⟩<;>first|rfl|(cases x<;>rfl)
 case lQ lo hi=>rcases args with _|⟨x,r⟩<;>first|rfl|(cases x<;>rfl)
 case gW size len lo hi m=>rcases args with _|⟨x,r⟩<;>first|rfl|(cases x<;>rfl)
 case pick=>rcases args with _|⟨x,_|⟨y,_|⟨z,_|⟨u,r⟩⟩⟩⟩<;>first|rfl|(cases x<;>rfl)
 case qu t ok zero=>rcases args with _|⟨x,_|⟨y,r⟩⟩<;>first|rfl|(cases x<;>rfl)
 all_goals (rcases args with _|⟨x,_|⟨y,_|⟨z,r⟩⟩⟩<;>first|rfl|(cases x<;>rfl)|(cases x<;>cases y<;>rfl))
end Ads
end Go.Proofs.Ytecdcefacdodgaa
set_option linter.unusedSimpArgs false
set_option linter.unusedVariables false
namespace Go.Proofs.Ytecdcefacdodgaa
namespace Ads
section
variable {α:Type}
def oN(n:Nat)(k:Nat→α):α:=match n with
 |0=>k 0
 |m+1=>k (Nat.succ m)
theorem uV(n:Nat)(k:Nat→α):oN n k=k n:=by cases n<;>rfl
def Om(n:Int)(k:Int→α):α:=match n with
 |.ofNat m=>oN m fun m=>k (.ofNat m)
 |.negSucc m=>oN m fun m=>k (.negSucc m)
theorem LW(n:Int)(k:Int→α):Om n k=k n:=by cases n<;>simp[Om,uV]
def HU(b:Bool)(k:Bool→α):α:=match b with
 |true=>k true
 |false=>k false
theorem HV(b:Bool)(k:Bool→α):HU b k=k b:=by cases b<;>rfl
def fS(v:AV)(k:AV→α):α:=match v with
 |.bool b=>HU b fun b=>k (.bool b)
 |.int kd n=>Om n fun n=>k (.int kd n)
 |.ptr b o=>oN b fun b=>oN o fun o=>k (.ptr b o)
 |.sl b o l c op=>oN b fun b=>oN o fun o=>oN l fun l=>oN c fun c=>HU op fun op=>k (.sl b o l c op)
 |.map b=>oN b fun b=>k (.map b)
 |.yield b=>oN b fun b=>k (.yield b)
 |.str s=>k (.str s)
 |.iR=>k .iR
 |.aq=>k .aq
 |.fe a=>k (.fe a)
 |.rest b o j=>oN b fun b=>oN o fun o=>oN j fun j=>k (.rest b o j)
 |.ji=>k .ji
 |.func a b c=>k (.func a b c)
 |.iP=>k .iP
 |.iface t v=>k (.iface t v)
 |.iQ=>k .iQ
 |.agg cs=>k (.agg cs)
 |.cC cs=>k (.cC cs)
 |.fz f l=>k (.fz f l)
 |.fp cs o=>k (.fp cs o)
theorem M9(v:AV)(k:AV→α):fS v k=k v:=by cases v<;>simp[fS,uV,LW,HV]
def fL:List AV→(List AV→α)→α
 |[],k=>k []
 |v::vs,k=>fS v fun v=>fL vs fun vs=>k (v::vs)
theorem EK:∀(l:List AV) (k:List AV→α),fL l k=k l
 |[],k=>rfl
 |v::vs,k=>by simp[fL,M9,EK vs]
def fB:List UInt8→(List UInt8→α)→α
 |[],k=>k []
 |v::vs,k=>fB vs fun vs=>k (v::vs)
theorem M8:∀(l:List UInt8) (k:List UInt8→α),fB l k=k l
 |[],k=>rfl
 |v::vs,k=>by simp[fB,M8 vs]
def fV(v:AV)(k:AV→α):α:=match v with
 |.agg cs=>fL cs fun cs=>k (.agg cs)
 |.cC cs=>fL cs fun cs=>k (.cC cs)
 |.iface t v=>fS v fun v=>k (.iface t v)
 |.str s=>fB s fun s=>k (.str s)
 |.func f a b=>fL a fun a=>fL b fun b=>k (.func f a b)
 |v=>fS v k
theorem yy(v:AV)(k:AV→α):fV v k=k v:=by cases v<;>simp[fV,M9,EK,M8]
def xV{β:Type}(x:Option β):Nat→Tr β→Nat→(Tr β→α)→α
 |0,t,_,k=>k t
 |f+1,.nil,n,k=>cond (Nat.beq n 0) (k (.node .nil x .nil))
   (cond (Nat.beq (n%2) 1) (xV x f .nil (n/2) fun l=>k (.node l none .nil)) (xV x f .nil (n/2-1) fun r=>k (.node .nil none r)))
 |f+1,.node l v r,n,k=>cond (Nat.beq n 0) (k (.node l x r))
   (cond (Nat.beq (n%2) 1) (xV x f l (n/2) fun l=>k (.node l v r)) (xV x f r (n/2-1) fun r=>k (.node l v r)))
theorem sx{β:Type}(x:Option β):∀(f:Nat) (t:Tr β) (n:Nat) (k:Tr β→α),xV x f t n k=k (Tr.put x f t n)
 |0,t,n,k=>rfl
 |f+1,.nil,n,k=>by
  simp only[xV,Tr.put];cases Nat.beq n 0
  ·cases Nat.beq (n%2) 1<;>simp[sx x f,Tr.left,Tr.right,Tr.val]
  ·rfl
 |f+1,.node l v r,n,k=>by
  simp only[xV,Tr.put];cases Nat.beq n 0
  ·cases Nat.beq (n%2) 1<;>simp[sx x f,Tr.left,Tr.right,Tr.val]
  ·rfl
end
def Ev{α:Type}:List AV→Nat→Env→(Env→α)→α
 |[],_,e,k=>k e
 |v::vs,i,e,k=>xV (some v) (i+1) e i fun e=>Ev vs (i+1) e k
theorem AQ{α:Type}:∀(l:List AV) (i:Nat) (e:Env) (k:Env→α),Ev l i e k=k (Env.args l i e)
 |[],i,e,k=>rfl
 |v::vs,i,e,k=>by simp[Ev,sx,AQ vs,Env.args,Tr.set]
def lT{α:Type}(n:Nat)(args:List AV)(k:Env→α):α:=Ev args 0 (Tr.full (Nat.log2 n+1)) k
theorem nk{α:Type}(n:Nat)(args:List AV)(k:Env→α):lT n args k=k (Env.start n args):=AQ _ _ _ _
def fC{α:Type}(v:AV)(k:AV→α):α:=match v with
 |.bool b=>k (.bool b)
 |.int kd n=>k (.int kd n)
 |.ptr b o=>k (.ptr b o)
 |.sl b o l c op=>k (.sl b o l c op)
 |.map b=>k (.map b)
 |.yield b=>k (.yield b)
 |.str s=>k (.str s)
 |.iR=>k .iR
 |.aq=>k .aq
 |.fe a=>k (.fe a)
 |.rest b o j=>k (.rest b o j)
 |.ji=>k .ji
 |.func a b c=>k (.func a b c)
 |.iP=>k .iP
 |.iface t v=>k (.iface t v)
 |.iQ=>k .iQ
 |.agg cs=>k (.agg cs)
 |.cC cs=>k (.cC cs)
 |.fz f l=>k (.fz f l)
 |.fp cs o=>k (.fp cs o)
theorem Bg{α:Type}(v:AV)(k:AV→α):fC v k=k v:=by cases v<;>rfl
def Cj{α β:Type}(t:Tr β)(n:Nat)(x:β)(k:Tr β→α):α:=xV (some x) (n+1) t n k
theorem sJ{α β:Type}(t:Tr β)(n:Nat)(x:β)(k:Tr β→α):Cj t n x k=k (t.set n x):=sx _ _ _ _ _
def iE{α:Type}(e:Env)(d:Option Nat)(v:AV)(k:Env→α):α:=match d with
 |some d=>Cj e d v k
 |none=>k e
theorem jJ{α:Type}(e:Env)(d:Option Nat)(v:AV)(k:Env→α):iE e d v k=k (e.put d v):=by
 cases d<;>simp[iE,Env.put,sJ]
def newF{α:Type}(h:Heap)(x:ck)(k:Heap→α):α:=
 match x with
 |.cells vs wr es=>fL vs fun vs=>Cj h.m h.next (.cells vs wr es) fun m=>oN (h.next+1) fun n=>k ⟨n,m⟩
 |x=>Cj h.m h.next x fun m=>oN (h.next+1) fun n=>k ⟨n,m⟩
theorem p8{α:Type}(h:Heap)(x:ck)(k:Heap→α):newF h x k=k (h.new x):=by
 cases x<;>simp[newF,EK,sJ,uV,Heap.new]
def lf{α:Type}(h:Heap)(b:Nat)(x:ck)(k:Heap→α):α:=
 match x with
 |.cells vs wr es=>fL vs fun vs=>Cj h.m b (.cells vs wr es) fun m=>k ⟨h.next,m⟩
 |x=>Cj h.m b x fun m=>k ⟨h.next,m⟩
theorem jP{α:Type}(h:Heap)(b:Nat)(x:ck)(k:Heap→α):lf h b x k=k (h.set b x):=by
 cases x<;>simp[lf,EK,sJ,Heap.set]
def LD{α:Type}(h:Heap)(b:Nat)(k:Heap→α):α:=xV none (b+1) h.m b fun m=>k ⟨h.next,m⟩
theorem EI{α:Type}(h:Heap)(b:Nat)(k:Heap→α):LD h b k=k (h.del b):=by
 simp[LD,sx,Heap.del,Tr.del]
def rH(h:Heap)(b o:Nat)(xs:List AV)(k:Heap→Bool):Bool:=
 match h.get b with
 |some (.cells vs true es)=>cond (Nat.ble (o+xs.length) vs.length&&bY xs) (lf h b (.cells (Heap.splice vs o xs) true es) k) false
 |_=>false
theorem qp(h:Heap)(b o:Nat)(xs:List AV)(k:Heap→Bool):rH h b o xs k=match h.cJ b o xs with|some h=>k h|none=>false:=by
 unfold rH Heap.cJ;cases hg:h.get b with
 |none=>rfl
 |some x=>
  cases x with
  |cells vs wr es=>
   cases wr with
   |true=>simp only[];cases(Nat.ble (o+xs.length) vs.length&&bY xs)<;>simp[jP]
   |false=>rfl
  |_=>rfl
def Q2(o:yb)(args:List AV)(h:Heap)(k:AV→Heap→Bool):Bool:=
 match o,args with
 |.store n,[.ptr b o,v]=>cond (Nat.beq v.cells.length n) (rH h b o v.cells fun h=>k .undef h) false
 |.append size bytes,[s,x]=>match aM size h x with
  |none=>false
  |some (n,new)=>cond (bY new) (match s with
   |.aq=>cond (Nat.beq n 0) (k .aq h)
     (cond (Nat.ble (n*bytes) 140737488355328&&Nat.ble n 9223372036854775807) (newF h (.cells new true size) fun h1=>k (.sl h.next 0 n n true) h1) false)
   |.sl b o len cap jl=>cond (Nat.beq n 0&&Nat.ble len cap) (k (.sl b o len cap jl) h) (cond (Nat.ble (len+n) cap)
     (rH h b (o+len*size) new fun h=>k (.sl b o (len+n) cap jl) h)
     (cond (Nat.ble ((len+n)*bytes) 140737488355328&&Nat.ble (len+n) 9223372036854775807)
      (match h.get b,h.bI b o (len*size) with
      |some (.cells vs wr es),some old=>cond jl
        (cond (wr&&Nat.beq vs.length (o+len*size)&&Nat.beq cap len&&Nat.beq es size)
         (LD h b fun h2=>newF h2 (.cells (old++new) true size) fun h1=>k (.sl h.next 0 (len+n) (len+n) true) h1) false)
        (newF h (.cells (old++new) true size) fun h1=>k (.sl h.next 0 (len+n) (len+n) true) h1)
      |_,_=>false) false))
   |_=>false) false
 |.copy size,[d,x]=>match d,aM size h x with
  |.aq,some _=>k (.int .i64 0) h
  |.sl b o len _ _,some (n,new)=>rH h b o (new.take (min n len*size)) fun h=>k (.int .i64 (min n len)) h
  |_,_=>false
 |.clear zs,[d]=>match d with
  |.aq=>k .undef h
  |.sl b o len _ _=>rH h b o (bR zs len) fun h=>k .undef h
  |_=>false
 |.ins,[.map b,kv,v]=>match h.get b with
  |some (.map es bs c)=>match findKey kv es with
   |some r=>lf h b (.map (putKey kv v es) (od r bs c) (vu r c)) fun h=>k .undef h
   |none=>false
  |_=>false
 |.range,[.map b]=>match h.get b with
  |some (.map _ _ c)=>newF h (.iter b c [] c) fun h1=>k (.ptr h.next 0) h1
  |_=>false
 |.next,[.ptr it 0]=>match h.get it with
  |some (.iter m _ seen last)=>match h.get m with
   |some (.map _ bs _)=>cond (oU seen last bs&&(oe seen bs).isEmpty) (LD h it fun h1=>k (.cC [.bool false]) h1) false
   |_=>false
  |_=>false
 |.Jf,[.map b,kv]=>match h.get b with
  |some (.map es bs c)=>match findKey kv es with
   |some _=>lf h b (.map (delKey kv es) (mb kv es bs) c) fun h=>k (.cC []) h
   |none=>false
  |_=>false
 |_,_=>false
theorem FP{o:yb}{args:List AV}{h:Heap}{k:AV→Heap→Bool}(hh:Q2 o args h k=true):∃v h1,eI o args h=some (v,h1)∧k v h1=true:=by
 unfold Q2 at hh;split at hh
 ·rename_i n b o v;simp only[eI];cases hb:Nat.beq v.cells.length n with
  |false=>simp[hb] at hh
  |true=>
   simp only[hb,cond_true,qp] at hh⊢;cases hs:h.cJ b o v.cells with
   |none=>simp[hs] at hh
   |some h1=>rw[hs] at hh;exact⟨.undef,h1,rfl,hh⟩
 ·rename_i size bytes s x;simp only[eI];cases hsc:aM size h x with
  |none=>simp[hsc] at hh
  |some p=>
   obtain⟨n,new⟩:=p;simp only[hsc] at hh⊢;cases hf:bY new with
   |false=>simp[hf] at hh
   |true=>
    simp only[hf,cond_true] at hh⊢;split at hh
    ·cases h0:Nat.beq n 0 with
     |true=>rw[h0] at hh;exact⟨_,_,rfl,hh⟩
     |false=>
      rw[h0] at hh;simp only[cond_false,p8] at hh⊢;cases hc:(Nat.ble (n*bytes) 140737488355328&&Nat.ble n 9223372036854775807) with
      |false=>simp[hc] at hh
      |true=>rw[hc] at hh;exact⟨_,_,rfl,hh⟩
    ·rename_i b o len cap jl;cases yL:(Nat.beq n 0&&Nat.ble len cap) with
     |true=>simp only[yL,cond_true] at hh⊢;exact⟨_,_,rfl,hh⟩
     |false=>
     simp only[yL,cond_false] at hh⊢;cases hle:Nat.ble (len+n) cap with
     |true=>
      simp only[hle,cond_true,qp] at hh⊢;cases hs:h.cJ b (o+len*size) new with
      |none=>simp[hs] at hh
      |some h1=>rw[hs] at hh;exact⟨_,_,rfl,hh⟩
     |false=>
      simp only[hle,cond_false] at hh⊢;cases hc:(Nat.ble ((len+n)*bytes) 140737488355328&&Nat.ble (len+n) 9223372036854775807) with
      |false=>simp[hc] at hh
      |true=>
       simp only[hc,cond_true] at hh⊢;split at hh
       ·rename_i vs wr es old hg hl;rw[hg,hl];simp only;cases jl with
        |false=>simp only[cond_false,p8] at hh⊢;exact⟨_,_,rfl,hh⟩
        |true=>
         simp only[cond_true] at hh⊢;cases hw:(wr&&Nat.beq vs.length (o+len*size)&&Nat.beq cap len&&Nat.beq es size) with
         |false=>simp[hw] at hh
         |true=>
          simp only[hw,cond_true,EI,p8] at hh⊢;exact⟨_,_,rfl,hh⟩
       ·simp at hh
    ·simp at hh
 ·rename_i size d x;simp only[eI];split at hh
  ·rename_i q hq;rw[hq];exact⟨_,_,rfl,hh⟩
  ·rename_i b o len cap jl n new hq;rw[hq];simp only[qp] at hh⊢;cases hs:h.cJ b o (new.take (min n len*size)) with
   |none=>simp[hs] at hh
   |some h1=>rw[hs] at hh;exact⟨_,_,rfl,hh⟩
  ·simp at hh
 ·rename_i zs d;simp only[eI];split at hh
  ·exact⟨_,_,rfl,hh⟩
  ·rename_i b o len cap jl;simp only[qp] at hh⊢;cases hs:h.cJ b o (bR zs len) with
   |none=>simp[hs] at hh
   |some h1=>rw[hs] at hh;exact⟨_,_,rfl,hh⟩
  ·simp at hh
 ·rename_i b kv v;simp only[eI];split at hh
  ·rename_i es bs c hg;rw[hg];split at hh
   ·rename_i r hr;simp only[hr,jP] at hh⊢;exact⟨_,_,rfl,hh⟩
   ·simp at hh
  ·simp at hh
 ·rename_i b;simp only[eI];split at hh
  ·rename_i es bs c hg;rw[hg];simp only[p8] at hh⊢;exact⟨_,_,rfl,hh⟩
  ·simp at hh
 ·rename_i it;simp only[eI];split at hh
  ·rename_i m since seen last hg;rw[hg];simp only;split at hh
   ·rename_i es bs c hm;rw[hm];simp only;cases hc:(oU seen last bs&&(oe seen bs).isEmpty) with
    |false=>simp[hc] at hh
    |true=>
     simp only[hc,cond_true,EI] at hh⊢;exact⟨_,_,rfl,hh⟩
   ·simp at hh
  ·simp at hh
 ·rename_i b kv;simp only[eI];split at hh
  ·rename_i es bs c hg;rw[hg];split at hh
   ·rename_i r hr;simp only[hr,jP] at hh⊢;exact⟨_,_,rfl,hh⟩
   ·simp at hh
  ·simp at hh
 ·simp at hh
end Ads
end Go.Proofs.Ytecdcefacdodgaa
set_option linter.unusedSimpArgs false
set_option linter.unusedVariables false
namespace Go.Proofs.Ytecdcefacdodgaa
namespace Ads
theorem s8{α:Type}{c:Bool}{x:α}{y:α}(h:cond c (some x) none=some y):x=y:=by
 cases c with
 |false=>simp at h
 |true=>simpa using h
def LK(h h':Heap):Prop:=h.next≤h'.next∧∀L st bD e ps a b,L<h.next→h.get L=some (.loop st bD e ps a b)→∃st' ku,h'.get L=some (.loop st' ku e ps a b)
theorem LK.refl(h:Heap):LK h h:=⟨Nat.le_refl _,fun L st bD e ps a b _ hg=>⟨st,bD,hg⟩⟩
theorem LK.trans{h h1 h2:Heap}(x:LK h h1)(y:LK h1 h2):LK h h2:=by
 refine⟨Nat.le_trans x.1 y.1,fun L st bD e ps a b hL hg=>?_⟩;obtain⟨st',ku,hg'⟩:=x.2 L st bD e ps a b hL hg;exact y.2 L st' ku e ps a b (Nat.lt_of_lt_of_le hL x.1) hg'
theorem LK.new(h:Heap)(x:ck):LK h (h.new x):=
 ⟨by simp,fun L st bD e ps a b hL hg=>⟨st,bD,by rw[Heap.bK,if_neg (by omega)];exact hg⟩⟩
theorem LK.set{h:Heap}{b:Nat}{x y:ck}(hb:h.get b=some x)(hx:∀st bD e ps a c,x≠.loop st bD e ps a c):LK h (h.set b y):=by
 refine⟨Nat.le_refl _,fun L st bD e ps a c hL hg=>⟨st,bD,?_⟩⟩;rw[Heap.bl,if_neg]
 ·exact hg
 ·rintro rfl;rw[hb] at hg;cases hg
  exact hx _ _ _ _ _ _ rfl
theorem LK.del{h:Heap}{b:Nat}{x:ck}(hb:h.get b=some x)(hx:∀st bD e ps a c,x≠.loop st bD e ps a c):LK h (h.del b):=by
 refine⟨Nat.le_refl _,fun L st bD e ps a c hL hg=>⟨st,bD,?_⟩⟩;rw[Heap.cH,if_neg]
 ·exact hg
 ·rintro rfl;rw[hb] at hg;cases hg
  exact hx _ _ _ _ _ _ rfl
theorem LK.store{h h':Heap}{b o:Nat}{xs:List AV}(hs:h.cJ b o xs=some h'):LK h h':=by
 unfold Heap.cJ at hs;split at hs
 ·rename_i vs es hg;cases hc:(Nat.ble (o+xs.length) vs.length&&bY xs) with
  |false=>simp[hc] at hs
  |true=>
   simp only[hc,cond_true,Option.some.injEq] at hs;subst hs;exact LK.set hg (by simp)
 ·simp at hs
theorem LK.eff{o:yb}{args:List AV}{h h':Heap}{v:AV}(he:eI o args h=some (v,h')):LK h h':=by
 unfold eI at he;split at he
 ·rename_i n b o v;cases hb:Nat.beq v.cells.length n with
  |false=>simp[hb] at he
  |true=>
   simp only[hb,cond_true,Option.map_eq_some_iff,Prod.mk.injEq] at he;obtain⟨h1,hs,_,rfl⟩:=he;exact LK.store hs
 ·rename_i size bytes s x;split at he
  ·simp at he
  ·rename_i n new hsc;cases hf:bY new with
   |false=>simp[hf] at he
   |true=>
    simp only[hf,cond_true] at he;split at he
    ·cases h0:Nat.beq n 0 with
     |true=>
      simp only[h0,cond_true,Option.some.injEq,Prod.mk.injEq] at he;obtain⟨_,rfl⟩:=he;exact LK.refl _
     |false=>
      simp only[h0,cond_false] at he;cases hc:(Nat.ble (n*bytes) 140737488355328&&Nat.ble n 9223372036854775807) with
      |false=>simp[hc] at he
      |true=>
       simp only[hc,cond_true,Option.some.injEq,Prod.mk.injEq] at he;obtain⟨_,rfl⟩:=he;exact LK.new _ _
    ·rename_i b o len cap jl;cases yL:(Nat.beq n 0&&Nat.ble len cap) with
     |true=>
      simp only[yL,cond_true,Option.some.injEq,Prod.mk.injEq] at he;obtain⟨_,rfl⟩:=he;exact LK.refl _
     |false=>
     simp only[yL,cond_false] at he;cases hle:Nat.ble (len+n) cap with
     |true=>
      simp only[hle,cond_true,Option.map_eq_some_iff,Prod.mk.injEq] at he;obtain⟨h1,hs,_,rfl⟩:=he;exact LK.store hs
     |false=>
      simp only[hle,cond_false] at he;cases hc:(Nat.ble ((len+n)*bytes) 140737488355328&&Nat.ble (len+n) 9223372036854775807) with
      |false=>simp[hc] at he
      |true=>
       simp only[hc,cond_true] at he;split at he
       ·rename_i vs wr es old hg hl;cases jl with
        |false=>
         simp only[cond_false,Option.some.injEq,Prod.mk.injEq] at he;obtain⟨_,rfl⟩:=he;exact LK.new _ _
        |true=>
         simp only[cond_true] at he;cases hw:(wr&&Nat.beq vs.length (o+len*size)&&Nat.beq cap len&&Nat.beq es size) with
         |false=>simp[hw] at he
         |true=>
          simp only[hw,cond_true,Option.some.injEq,Prod.mk.injEq] at he;obtain⟨_,rfl⟩:=he;exact(LK.del hg (by simp)).trans (LK.new _ _)
       ·simp at he
    ·cases h0:Nat.beq n 0 with
     |true=>
      simp only[h0,cond_true,Option.some.injEq,Prod.mk.injEq] at he;obtain⟨_,rfl⟩:=he;exact LK.refl _
     |false=>
      simp only[h0,cond_false] at he;cases hc:(Nat.ble (n*bytes) 140737488355328&&Nat.ble n 9223372036854775807) with
      |false=>simp[hc] at he
      |true=>
       simp only[hc,cond_true,Option.some.injEq,Prod.mk.injEq] at he;obtain⟨_,rfl⟩:=he;exact LK.new _ _
    ·simp at he
 ·rename_i size d x;split at he
  ·simp only[Option.some.injEq,Prod.mk.injEq] at he;obtain⟨_,rfl⟩:=he;exact LK.refl _
  ·simp only[Option.some.injEq,Prod.mk.injEq] at he;obtain⟨_,rfl⟩:=he;exact LK.refl _
  ·simp only[Option.map_eq_some_iff,Prod.mk.injEq] at he;obtain⟨h1,hs,_,rfl⟩:=he;exact LK.store hs
  ·simp at he
 ·rename_i gH d;split at he
  ·simp only[Option.some.injEq,Prod.mk.injEq] at he;obtain⟨_,rfl⟩:=he;exact LK.refl _
  ·simp only[Option.map_eq_some_iff,Prod.mk.injEq] at he;obtain⟨h1,hs,_,rfl⟩:=he;exact LK.store hs
  ·simp at he
 ·split at he
  ·rename_i hg;split at he
   ·simp only[Option.some.injEq,Prod.mk.injEq] at he;obtain⟨_,rfl⟩:=he;exact LK.set hg (by simp)
   ·simp at he
  ·simp at he
 ·split at he
  ·simp only[Option.some.injEq,Prod.mk.injEq] at he;obtain⟨_,rfl⟩:=he;exact LK.new _ _
  ·simp at he
 ·split at he
  ·rename_i hg;split at he
   ·obtain⟨_,rfl⟩:=Prod.mk.inj (s8 he);exact LK.del hg (by simp)
   ·simp at he
  ·simp at he
 ·split at he
  ·rename_i hg;split at he
   ·simp only[Option.some.injEq,Prod.mk.injEq] at he;obtain⟨_,rfl⟩:=he;exact LK.set hg (by simp)
   ·simp at he
  ·simp at he
 ·simp only[Option.some.injEq,Prod.mk.injEq] at he;obtain⟨_,rfl⟩:=he;exact LK.new _ _
 ·simp at he
def Task.heap:Task→Heap
 |.code _ _ _ h=>h
 |.ops _ _ _ h=>h
 |.op _ _ _ h=>h
 |.cu _ _ h=>h
 |.call _ _ h=>h
 |.any _ _ _ h=>h
def iw.heap:iw→Heap
 |.post _=>⟨0,.nil⟩
 |.code _ _ h=>h
 |.ops _ _ h=>h
 |.val _ h=>h
 |.jm _ h=>h
theorem LK.Ve{o:yb}{args:List AV}{h h':Heap}{v:AV}(he:eK o args h=some (v,h')):LK h h':=by
 unfold eK at he;split at he
 ·split at he
  ·simp at he
  ·split at he
   ·rename_i hg _;have he:=s8 he;cases he
    exact(LK.set hg (by simp)).trans (LK.new _ _)
   ·simp at he
 ·simp at he
theorem LK.eW{h g g':Heap}(x:LK g g')(s:mS g h):LK h (m8 h g g'):=by
 refine⟨by rw[←s.1];exact x.1,fun L st bD e ps a b hL hg=>?_⟩;have bW:(m8 h g g').get L=if(g.get L).isSome=true∨h.next≤L then g'.get L else h.get L:=by
  show(sw h g g' g'.next).get L=_;rw[kQ];have:L<g'.next:=by have:=x.1;have:=s.1;omega
  simp only[this,true_and]
 rw[bW];split
 ·rename_i hc;rcases hc with hc|hc
  ·cases hy:g.get L with
   |none=>rw[hy] at hc;simp at hc
   |some y=>
    have:=s.2 L y hy;rw[hg] at this;cases this
    exact x.2 L st bD e ps a b (by rw[s.1];exact hL) hy
  ·omega
 ·exact⟨st,bD,hg⟩
theorem LK.SJ{h g u h2:Heap}(x:LK g u)(s:mS g h)(hn:h2.next=u.next)(h1:∀b,b<h.next→h2.get b=if(g.get b).isSome=true then u.get b else h.get b):LK h h2:=by
 refine⟨by rw[hn,←s.1];exact x.1,fun L st bD e ps a b hL hg=>?_⟩;rw[h1 L hL];split
 ·rename_i hc;cases hy:g.get L with
  |none=>rw[hy] at hc;simp at hc
  |some y=>
   have:=s.2 L y hy;rw[hg] at this;cases this
   exact x.2 L st bD e ps a b (by rw[s.1];exact hL) hy
 ·exact⟨st,bD,hg⟩
theorem LK.forget{h H h2:Heap}(x:LK h H)(s:mS h2 H)(ho:∀b,b<h.next→h.get b≠none→h2.get b=H.get b):LK h h2:=
 ⟨by rw[s.1];exact x.1,fun L st bD e ps a b hL hg=>by rw[ho L hL (by rw[hg];simp)];exact x.2 L st bD e ps a b hL hg⟩
def CP(t:Task)(r:iw):Prop:=match r with
 |.post Q=>∃x e h',Q x e h'∧LK t.heap h'
 |r=>LK t.heap r.heap
theorem CP.of{t t':Task}{r:iw}(x:LK t.heap t'.heap)(k:CP t' r):CP t r:=by
 cases r with
 |post Q=>obtain⟨a,b,c,q,l⟩:=k;exact⟨a,b,c,q,x.trans l⟩
 |_=>exact LK.trans x k
theorem rq{h:Heap}{it m since c:Nat}{seen:List Nat}{p:AV×Heap}:∀{bs:List Nat} {es:List (AV×AV)},p∈sr h it m since seen c bs es→∃x,p.2=h.set it x
 |[],es,hp=>by simp[sr] at hp
 |b::bs,[],hp=>by simp[sr] at hp
 |b::bs,(k,v)::es,hp=>by
  simp only[sr] at hp;cases hb:tG b seen with
  |true=>rw[hb] at hp;exact rq hp
  |false=>
   rw[hb] at hp;rcases List.mem_cons.1 hp with rfl|hp
   ·exact⟨_,rfl⟩
   ·exact rq hp
theorem LK.qM{args:List AV}{h:Heap}{cs:List (AV×Heap)}{p:AV×Heap}(hc:qM args h=some cs)(hp:p∈cs):LK h p.2:=by
 unfold Ads.qM at hc;split at hc
 ·split at hc
  ·rename_i hg;split at hc
   ·have:=s8 hc;subst this;obtain⟨x,hx⟩:=rq hp;rw[hx];exact LK.set hg (by simp)
   ·simp at hc
  ·simp at hc
 ·simp at hc
theorem BS.Sv{fs:Nat→Option az}{ms:Nat→String→Option Nat}{t:Task}{r:iw}(h:BS fs ms t r):CP t r:=by
 induction h with
 |skip=>exact LK.refl _
 |ops _ ih=>exact ih
 |cm _ _ ih=>exact ih
 |xX _ _ ih1 ih2=>exact CP.of (t':=.code _ _ _ _) ih1 ih2
 |ou _ _ ih=>exact ih
 |cond _ _ ih=>exact CP.of (LK.refl _) ih
 |nD _ ih=>exact ih
 |eO _ _ ih=>exact ih
 |mo _ _ ih1 ih2=>exact CP.of (t':=.code _ _ _ _) ih1 ih2
 |c9 _ _ ih=>exact ih
 |exit=>exact LK.refl _
 |ret=>exact LK.refl _
 |@rangeFunc g ps a b e h f first aF v h2 st x hg hc hl hst hx ih=>
  have h1:=(LK.new h (.loop 0 none e ps a b)).trans ih;refine⟨h1.1,fun L st bD e ps a b hL Xf=>?_⟩;obtain⟨st',ku,hg'⟩:=h1.2 L st bD e ps a b hL Xf;have hL':L<h.next:=hL;exact⟨st',ku,by simp only[iw.heap];rw[Heap.bl,if_neg (by omega)];exact hg'⟩
 |nil=>exact LK.refl _
 |off _ _ ih=>exact ih
 |on _ _ _ ih1 ih2=>exact ih1.trans ih2
 |CN _=>exact LK.refl _
 |ME _=>exact LK.new _ _
 |Fa _=>exact LK.refl _
 |KE h=>exact LK.eff h
 |SI h=>exact LK.Ve h
 |lI _ ih=>exact ih
 |jU _ _ ih=>exact ih
 |cu _ ih=>exact ih
 |@yield L args h bD e ps a b e2 h2 bZ x e4 h4 J8 o7 hg hlen AF BD Kz hx Qq ih1 ih2=>
  show LK h (h4.set L _);replace ih1:LK h h2:=ih1;replace ih2:LK (h2.set L (.loop 1 bZ e ps a b)) h4:=ih2;refine⟨Nat.le_trans ih1.1 ih2.1,fun L0 WQ JE e0 SL a0 b0 Rm GW=>?_⟩;by_cases hl:L0=L
  ·subst hl;rw[hg] at GW;cases GW
   exact⟨_,_,by rw[Heap.bl,if_pos rfl]⟩
  ·obtain⟨s1,p1,g1⟩:=ih1.2 L0 WQ JE e0 SL a0 b0 Rm GW;obtain⟨s2,p2,g2⟩:=ih2.2 L0 s1 p1 e0 SL a0 b0 (Nat.lt_of_lt_of_le Rm ih1.1) (by rw[Heap.bl,if_neg hl];exact g1);exact⟨s2,p2,by rw[Heap.bl,if_neg hl];exact g2⟩
 |call _ _ _ _ _ ih=>exact ih
 |fresh _ _ _ _=>exact LK.refl _
 |Dg hs _ hn h1 _ ih=>exact ih.SJ hs hn h1
 |forget hs ho _ ih=>exact ih.forget hs ho
 |jz _ _ ih=>exact(LK.new _ _).trans ih
 |@pN L args h bD e ps a id A l1 i l2 e2 h2 bZ e3 h3 tr e4 h4 v h5 hg hlen AF di BD EY hsA hl hw ho ih1 I5 ihl ur=>
  replace ih1:LK h h2:=ih1;have Ww:LK (h2.set L (.loop 1 bZ e ps a (.block id (.seq A (.ops (l1++i::l2)))))) h5:=LK.trans I5 (LK.trans ihl ur);refine⟨Nat.le_trans ih1.1 Ww.1,fun L0 WQ JE e0 SL a0 b0 Rm GW=>?_⟩;obtain⟨s1,p1,g1⟩:=ih1.2 L0 WQ JE e0 SL a0 b0 Rm GW;have hlt:L0<h2.next:=Nat.lt_of_lt_of_le Rm ih1.1;by_cases hl:L0=L
  ·subst hl;rw[BD] at g1;cases g1
   exact Ww.2 L0 _ _ _ _ _ _ hlt (by rw[Heap.bl,if_pos rfl])
  ·exact Ww.2 L0 s1 p1 e0 SL a0 b0 hlt (by rw[Heap.bl,if_neg hl];exact g1)
 |Gm _ _ _ ih1 ih2=>exact ih1.trans ih2
 |yp _ _ _ _ _ _ ih1 ih2=>exact ih1.trans ih2
 |qc=>exact LK.refl _
 |nL _ ih=>exact ih
 |kP _ _ ih=>exact ih
 |oE _ ih=>exact ih
 |vr _ _ _ ih=>exact ih
 |tY _ _ _ _ _ _ _ _ _ _ _ _ _ _ _ _ _ _ _ I5 ih1 ih2 _ ih3=>exact((I5.trans ih1).trans ih2).trans ih3
 |Hp _ hq ih=>exact⟨_,_,_,hq,ih⟩
 |@Hq rd a b e h R Q _ hx _ q9 nu=>
  obtain⟨x,e1,h1,hr,l⟩:=q9;cases hn:x.bx with
  |false=>exact⟨x,e1,h1,hx _ _ _ hr hn,l⟩
  |true=>
   have:x=.normal:=by cases x<;>simp[AX.bx] at hn;rfl
   subst this;obtain⟨x2,e2,h2,hq,l2⟩:=nu e1 h1 hr;exact⟨x2,e2,h2,hq,LK.trans l l2⟩
 |Es _ _ ih=>exact ih
 |AM _ hx ih=>
  obtain⟨x,e1,h1,hr,l⟩:=ih;exact⟨_,e1,h1,hx _ _ _ hr,l⟩
 |@Et rd c e h R Q _ hx _ q9 nu=>
  obtain⟨x,e1,h1,hr,l⟩:=q9;cases hn:x.bx with
  |false=>exact⟨x,e1,h1,hx _ _ _ hr hn,l⟩
  |true=>
   have:x=.normal:=by cases x<;>simp[AX.bx] at hn;rfl
   subst this;obtain⟨x2,e2,h2,hq,l2⟩:=nu e1 h1 hr;exact⟨x2,e2,h2,hq,LK.trans l l2⟩
 |@Eu rd dst args l e h cs Q T E H hc hne hl hq ihl=>
  cases cs with
  |nil=>exact absurd rfl hne
  |cons p cs=>exact⟨_,_,_,hq p List.mem_cons_self,LK.trans (LK.qM hc List.mem_cons_self) (ihl p List.mem_cons_self)⟩
 |zy _ _ _ hQ ih=>
  obtain⟨x,e1,h1,hq,l⟩:=ih;obtain⟨_,_,s,ho⟩:=hQ x e1 h1 hq;exact LK.forget l s ho
theorem BS.keep{fs:Nat→Option az}{ms:Nat→String→Option Nat}{t:Task}{r:iw}(h:BS fs ms t r)(hr:∀Q,r≠.post Q:=by simp):LK t.heap r.heap:=by
 have:=h.Sv;cases r with
 |post Q=>exact absurd rfl (hr Q)
 |_=>exact this
theorem BS.A4{fs:Nat→Option az}{ms:Nat→String→Option Nat}{f:Nat}{args:List AV}{h:Heap}{r:iw}(hb:BS fs ms (.call f args h) r):(∃v h1,r=.val v h1)∨∃v h1,r=.jm v h1:=by
 cases hb with
 |call _ _ _ _ _=>exact .inl ⟨_,_,rfl⟩
 |fresh _ _ _=>exact .inl ⟨_,_,rfl⟩
 |Dg _ _ _ _ _=>exact .inl ⟨_,_,rfl⟩
 |forget _ _ _=>exact .inl ⟨_,_,rfl⟩
 |vr _ _ _=>exact .inr ⟨_,_,rfl⟩
 |zy _ _ _ _=>exact .inl ⟨_,_,rfl⟩
 |tY _ _ _ _ _ _ _ _ _ _ _ _ _ _ _ _ _ _ _=>exact .inl ⟨_,_,rfl⟩
end Ads
end Go.Proofs.Ytecdcefacdodgaa
set_option linter.unusedSimpArgs false
set_option linter.unusedVariables false
namespace Go.Proofs.Ytecdcefacdodgaa
namespace Ads
mutual
def AV.same:AV→AV→Bool
 |.bool a,.bool b=>a==b
 |.int k n,.int k' m=>cond (decide (k=k')) (decide (n=m)) false
 |.str s,.str t=>s==t
 |.ptr b o,.ptr b' o'=>Nat.beq b b'&&Nat.beq o o'
 |.iR,.iR=>true
 |.sl b o l c op,.sl b' o' l' c' op'=>Nat.beq b b'&&Nat.beq o o'&&Nat.beq l l'&&Nat.beq c c'&&op==op'
 |.aq,.aq=>true
 |.map b,.map b'=>Nat.beq b b'
 |.ji,.ji=>true
 |.func f a c,.func f' a' c'=>decide (f=f')&&wO a a'&&wO c c'
 |.iP,.iP=>true
 |.yield b,.yield b'=>Nat.beq b b'
 |.iface t v,.iface t' v'=>Nat.beq t t'&&v.same v'
 |.iQ,.iQ=>true
 |.agg cs,.agg cs'=>wO cs cs'
 |.cC cs,.cC cs'=>wO cs cs'
 |.rest b o k,.rest b' o' k'=>Nat.beq b b'&&Nat.beq o o'&&Nat.beq k k'
 |_,_=>false
def wO:List AV→List AV→Bool
 |[],[]=>true
 |v::vs,u::us=>v.same u&&wO vs us
 |_,_=>false
end
mutual
theorem AV.Aq:∀{v u:AV},v.same u=true→v=u:=by
 intro v u h;cases v<;>cases u<;>simp only[AV.same,Bool.and_eq_true,beq_iff_eq,Bool.false_eq_true,decide_eq_true_eq] at h<;>
  first
  |rfl
  |(obtain rfl:=h;rfl)
  |(have:=Nat.eq_of_beq_eq_true h;subst this;rfl)
  |(have h1:=Nat.eq_of_beq_eq_true h.1;have h2:=Nat.eq_of_beq_eq_true h.2;subst h1 h2;rfl)
  |(obtain⟨⟨⟨⟨h1,h2⟩,h3⟩,h4⟩,h5⟩:=h;have:=Nat.eq_of_beq_eq_true h1;have:=Nat.eq_of_beq_eq_true h2;have:=Nat.eq_of_beq_eq_true h3;have:=Nat.eq_of_beq_eq_true h4;subst_vars;rfl)
  |(obtain⟨⟨h1,h2⟩,h3⟩:=h;have:=Nat.eq_of_beq_eq_true h1;have:=Nat.eq_of_beq_eq_true h2;have:=Nat.eq_of_beq_eq_true h3;subst_vars;rfl)
  |(rename_i k n k' m;by_cases hk:k=k'<;>simp[hk] at h;subst hk h;rfl)
  |(rw[sG h])
  |(obtain⟨⟨h1,h2⟩,h3⟩:=h;rw[h1,sG h2,sG h3])
  |(obtain⟨h1,h2⟩:=h;rw[Nat.eq_of_beq_eq_true h1,AV.Aq h2])
theorem sG:∀{v u:List AV},wO v u=true→v=u:=by
 intro v u h;cases v<;>cases u<;>simp only[wO,Bool.and_eq_true,Bool.false_eq_true] at h
 ·rfl
 ·rw[AV.Aq h.1,sG h.2]
end
def pe(u:Nat→Heap):List bh→List (List Nat)→List aG→Bool
 |x::l,cs::win,m::tr=>cond (match x.op with
   |.r o=>cond m.on (cs.all fun c=>match rI o m.vals (u c) with|some v=>v.same m.v|none=>false) true
   |_=>true) (pe u l win tr) false
 |_,_,_=>true
theorem nQ{u:Nat→Heap}:∀{l:List bh} {win:List (List Nat)} {tr:List aG},pe u l win tr=true→b8 u l win tr
 |[],_,_,_=>by simp[b8]
 |_::_,[],_,_=>by simp[b8]
 |_::_,_::_,[],_=>by simp[b8]
 |x::l,cs::win,m::tr,h=>by
  simp only[pe] at h;generalize hb:(match x.op with
   |.r o=>cond m.on (cs.all fun c=>match rI o m.vals (u c) with|some v=>v.same m.v|none=>false) true
   |_=>true)=b at h
  cases b with
  |false=>simp at h
  |true=>
   simp only[cond_true] at h;simp only[b8];refine⟨?_,nQ h⟩;split
   ·rename_i o ho;intro dI c hc;rw[ho] at hb;simp only[dI,cond_true,List.all_eq_true] at hb;have:=hb c hc;split at this
    ·rename_i v hv;rw[hv,AV.Aq this]
    ·simp at this
   ·trivial
def vZ:List bh→Option (List bh×bh)
 |[]=>none
 |[i]=>some ([],i)
 |i::l=>match vZ l with
  |some (l1,j)=>some (i::l1,j)
  |none=>none
theorem v5:∀{l l1:List bh} {i:bh},vZ l=some (l1,i)→l=l1++[i]
 |[],l1,i,h=>by simp[vZ] at h
 |[j],l1,i,h=>by simp only[vZ,Option.some.injEq,Prod.mk.injEq] at h;obtain⟨rfl,rfl⟩:=h;rfl
 |j::k::l,l1,i,h=>by
  simp only[vZ] at h;split at h
  ·rename_i l2 i2 h2;simp only[Option.some.injEq,Prod.mk.injEq] at h;obtain⟨rfl,rfl⟩:=h;rw[v5 (l:=k::l) h2];rfl
  ·simp at h
def Au(c:AC):Option (AC×List bh×Option Nat×Nat×AC):=
 match c with
 |.seq A d=>match d with
  |.seq o rest=>match o with
   |.ops l=>match vZ l with
    |some (l1,i)=>match i.op with
     |.bad=>match i with
      |⟨dst,none,.bad,[.c (.bool true),.t a,.t b,.t c]⟩=>cond (Nat.beq a b&&Nat.beq a c) (some (A,l1,dst,a,rest)) none
      |_=>none
     |_=>none
    |none=>none
   |_=>none
  |_=>none
 |_=>none
theorem GI{c A:AC}{l1:List bh}{dst:Option Nat}{a:Nat}{rest:AC}(h:Au c=some (A,l1,dst,a,rest)):c=.seq A (.seq (.ops (l1++[oI dst (.t a)])) rest):=by
 unfold Au at h;split at h
 ·split at h
  ·split at h
   ·split at h
    ·rename_i hl;split at h
     ·split at h
      ·rename_i XF a2 b2 c2 _;cases hb:(Nat.beq a2 b2&&Nat.beq a2 c2) with
       |false=>rw[hb] at h;simp at h
       |true=>
        rw[hb] at h;simp only[cond_true,Option.some.injEq,Prod.mk.injEq] at h;obtain⟨rfl,rfl,rfl,rfl,rfl⟩:=h;simp only[Bool.and_eq_true] at hb;have h1:=Nat.eq_of_beq_eq_true hb.1;have h2:=Nat.eq_of_beq_eq_true hb.2;subst h1 h2;rw[v5 hl];rfl
      ·simp at h
     ·simp at h
    ·simp at h
   ·simp at h
  ·simp at h
 ·simp at h
def Ec(c:AC):Option (Nat×List bh×AC):=
 match c with
 |.seq (.ops (⟨some t,none,.bad,[.c (.bool false),.c (.bool false),.c (.bool false),.c (.bool false)]⟩::l2)) dS=>some (t,l2,dS)
 |_=>none
theorem y7{c:AC}{t:Nat}{l2:List bh}{dS:AC}(h:Ec c=some (t,l2,dS)):c=.seq (.ops (xW t::l2)) dS:=by
 unfold Ec at h;split at h
 ·simp only[Option.some.injEq,Prod.mk.injEq] at h;obtain⟨rfl,rfl,rfl⟩:=h;rfl
 ·simp at h
def DG{α:Type}:List α→Bool
 |[]=>true
 |_=>false
def I6:AX→Bool
 |.exit _=>false
 |_=>true
abbrev Rec:=Task→(iw→Bool)→Bool
def zH(ev:Rec)(rd:Bool)(l:List bh)(win:List (List Nat))(e:Env)(h:Heap)(k:iw→Bool):Bool:=match vZ l with
 |some (l1,i)=>ev (.ops rd l1 e h) fun r=>match r with
  |.ops tr e1 h1=>cond (bF i e1) (cond (pe (cg l1 tr h1) l1 (win.take l1.length) tr&&nJ l&&bH i.op) (ev (.op rd i.op (i.args.map e1.ev) h1) fun r=>match r with
   |.jm v h2=>k (.code (.panic v) e1 h2)
   |_=>false) false) false
  |_=>false
 |none=>false
def vC(ev:Rec)(a b:AC)(e:Env)(h:Heap)(k:iw→Bool):Bool:=match b with
 |.block _ (.seq A (.ops l))=>cond (aR a&&aR A) (ev (.code true A e h) fun r=>match r with
  |.code .normal e1 h1=>ev (.ops true l e1 h1) fun r=>match r with
   |.code (.panic v) _ h2=>k (.jm v h2)
   |_=>false
  |_=>false) false
 |_=>false
def HS(vals:List AV)(h:Heap)(k:iw→Bool):Bool:=match vals with
 |[.iface t x]=>k (.jm (.iface t x) h)
 |_=>false
def Ok(fs:Nat→Option az)(ev:Rec)(d:AC×List bh×Option Nat×Nat×AC)(af:az)(args:List AV)(h:Heap)(k:iw→Bool):Bool:=match d with
 |(A,l1,dst,a,rest)=>cond (Nat.ble args.length af.ntmps&&aR A) (lT af.ntmps args fun e0=>ev (.code false A e0 h) fun r=>match r with
  |.code .normal e1 h1=>ev (.ops false l1 e1 h1) fun r=>match r with
   |.ops tr e2 h2=>match e2.ev (.t a) with
    |.func (.func g) first aF=>ev (.code false rest (e2.put dst .undef) h2) fun r=>match r with
     |.code x e3 h3=>cond (I6 x) (match fs g with
      |some ag=>match Ec ag.body with
       |some (t,l2,dS)=>cond (Nat.ble (first++aF).length ag.ntmps&&DG ag.results&&aR dS&&lN l2)
        (ev (.ops false l2 ((Env.start ag.ntmps (first++aF)).put (some t) (nR x)) h3) fun r=>match r with
        |.ops KG e4 h4=>ev (.code false dS e4 h4) fun r=>match r with
         |.code y e5 h5=>match y with
          |.normal|.ret=>match fE e3 h5 af.results with
           |some vs=>k (.val (cI vs) h5)
           |none=>false
          |_=>false
         |_=>false
        |_=>false) false
       |none=>false
      |none=>false) false
     |_=>false
    |_=>false
   |_=>false
  |_=>false) false
abbrev NW:=Nat→List AV→Heap→Option (AV×Heap)
def Jt:NW:=fun _ _ _=>none
def Hf(fs:Nat→Option az)(ms:Nat→String→Option Nat)(wo:NW):Prop:=∀f args h v h1,wo f args h=some (v,h1)→BS fs ms (.call f args h) (.val v h1)
theorem Ju{fs:Nat→Option az}{ms:Nat→String→Option Nat}:Hf fs ms Jt:=fun f args h v h1 hh=>by simp[Jt] at hh
section
variable (fs:Nat→Option az) (ms:Nat→String→Option Nat) (wo:NW)
def ev:Nat→Task→(iw→Bool)→Bool
 |0,_,_=>false
 |n+1,t,k=>match t with
  |.code rd c e h=>match c with
   |.skip=>k (.code .normal e h)
   |.ops l=>ev n (.ops rd l e h) fun r=>match r with
    |.ops tr e' h'=>k (.code .normal e' h')
    |.code (.panic v) e1 h1=>k (.code (.panic v) e1 h1)
    |_=>false
   |.cm l win=>ev n (.ops rd l e h) fun r=>match r with
    |.ops tr e' h'=>cond (pe (cg l tr h') l win tr) (k (.code .normal e' h')) false
    |.code (.panic _) _ _=>zH (ev n) rd l win e h k
    |_=>false
   |.seq a b=>ev n (.code rd a e h) fun r=>match r with
    |.code .normal e1 h1=>ev n (.code rd b e1 h1) k
    |.code x e1 h1=>k (.code x e1 h1)
    |_=>false
   |.cond c a b=>match e.ev c with
    |.bool t=>ev n (.code rd (cond t a b) e h) k
    |_=>false
   |.block id c=>ev n (.code rd c e h) fun r=>match r with
    |.code (.exit i) e1 h1=>cond (Nat.beq i id) (k (.code .normal e1 h1)) (k (.code (.exit i) e1 h1))
    |.code x e1 h1=>k (.code x e1 h1)
    |_=>false
   |.loop c=>ev n (.code rd c e h) fun r=>match r with
    |.code .normal e1 h1=>ev n (.code rd (.loop c) e1 h1) k
    |.code x e1 h1=>k (.code x e1 h1)
    |_=>false
   |.exit id=>k (.code (.exit id) e h)
   |.ret=>k (.code .ret e h)
   |.rangeFunc g ps a b=>match rd,e.ev g with
    |false,.func (.func f) first aF=>newF h (.loop 0 none e ps a b) fun h1=>ev n (.call f (first++(.yield h.next::aF)) h1) fun r=>match r with
     |.val v h2=>match h2.get h.next with
      |some (.loop st none _ _ _ _)=>cond (Nat.beq st 1) false (lf h2 h.next (.loop 3 none e ps a b) fun h3=>k (.code .normal e h3))
      |some (.loop st (some (.exit id)) _ _ _ _)=>cond (Nat.beq st 1) false (lf h2 h.next (.loop 3 (some (.exit id)) e ps a b) fun h3=>k (.code (.exit id) e h3))
      |some (.loop st (some .ret) _ _ _ _)=>cond (Nat.beq st 1) false (lf h2 h.next (.loop 3 (some .ret) e ps a b) fun h3=>k (.code .ret e h3))
      |_=>false
     |.jm v h2=>k (.code (.panic v) e h2)
     |_=>false
    |_,_=>false
   |.bad=>false
  |.ops rd l e h=>match l with
   |[]=>k (.ops [] e h)
   |i::l=>cond (bF i e)
     (ev n (.op rd i.op (i.args.map e.ev) h) fun r=>match r with
      |.val v h1=>iE e i.dst v fun e1=>ev n (.ops rd l e1 h1) fun r=>match r with
       |.ops tr e' h'=>k (.ops (⟨h,i.args.map e.ev,v,true⟩::tr) e' h')
       |.code (.panic v) e1 h2=>k (.code (.panic v) e1 h2)
       |_=>false
      |.jm v h2=>k (.code (.panic v) e h2)
      |_=>false)
     (iE e i.dst .undef fun e1=>ev n (.ops rd l e1 h) fun r=>match r with
      |.ops tr e' h'=>k (.ops (⟨h,i.args.map e.ev,.undef,false⟩::tr) e' h')
      |.code (.panic v) e1 h2=>k (.code (.panic v) e1 h2)
      |_=>false)
  |.op rd o vals h=>match o with
   |.p o=>match pI o vals with
    |some v=>fV v fun v=>k (.val v h)
    |none=>false
   |.a o=>match aI o vals with
    |some (x,f)=>fV (f h.next) fun v=>newF h x fun h1=>k (.val v h1)
    |none=>false
   |.r o=>match rI o vals h with
    |some v=>fV v fun v=>k (.val v h)
    |none=>false
   |.e o=>Q2 o vals h fun v h1=>fV v fun v=>k (.val v h1)
   |.call=>match vals with
    |fv::args=>ev n (.cu fv args h) k
    |[]=>false
   |.invoke name=>match vals with
    |.iface t x::args=>match ms t name with
     |some f=>ev n (.call f (x::args) h) k
     |none=>false
    |_=>false
   |.panic=>HS vals h k
   |_=>false
  |.cu fv args h=>match fv with
   |.func (.func f) first aF=>ev n (.call f (first++(args++aF)) h) k
   |.yield L=>match h.get L with
    |some (.loop 0 bD e ps a b)=>cond (Nat.beq args.length ps.length&&Nat.ble (L+1) h.next)
     (ev n (.code true a (eX ps args e) h) fun r=>match r with
      |.code .normal e2 h2=>match h2.get L with
       |some (.loop 0 bZ _ _ _ _)=>lf h2 L (.loop 1 bZ e ps a b) fun h3=>ev n (.code true b e2 h3) fun r=>match r with
        |.code (.panic _) _ _=>vC (ev n) a b e2 h3 k
        |.code x e4 h4=>lf h4 L (.loop (cond x.bx 0 2) (dn x) e ps a b) fun h5=>k (.val (.bool x.bx) h5)
        |_=>false
       |_=>false
      |_=>false) false
    |_=>false
   |_=>false
  |.call f args h=>match wo f args h with
   |some (v,h1)=>k (.val v h1)
   |none=>match fs f with
   |some af=>match Au af.body with
    |none=>cond (Nat.ble args.length af.ntmps) (lT af.ntmps args fun e0=>ev n (.code false af.body e0 h) fun r=>match r with
     |.code x e h1=>match x with
      |.normal|.ret=>match fE e h1 af.results with
       |some vs=>fV (cI vs) fun v=>k (.val v h1)
       |none=>false
      |.panic v=>k (.jm v h1)
      |_=>false
     |_=>false) false
    |some d=>Ok fs (ev n) d af args h k
   |none=>false
  |.any ..=>false
end
section
variable {fs:Nat→Option az} {ms:Nat→String→Option Nat} {wo:NW}
theorem nN:∀{l:List bh} {rd:Bool} {e:Env} {h:Heap} {tr:List aG} {e':Env} {h':Heap},lN l=true→BS fs ms (.ops rd l e h) (.ops tr e' h')→h'=h
 |[],rd,e,h,tr,e',h',_,hb=>by cases hb;rfl
 |i::l,rd,e,h,tr,e',h',hp,hb=>by
  simp only[lN,Bool.and_eq_true] at hp;cases hb with
  |off hw hl=>exact nN hp.2 hl
  |on hw ho hl=>
   obtain⟨d,gd,op,as⟩:=i;cases op<;>cases gd<;>simp at hp
   cases ho
   exact nN hp hl
def Ue(fs:Nat→Option az)(ms:Nat→String→Option Nat)(t:Task)(r:iw):Prop:=match t with
 |.ops rd l e h=>match r with
  |.ops tr e' h'=>BS fs ms (.ops rd l e h) (.ops tr e' h')
  |.code (.panic v) e1 h2=>∃l1 i l2 tr h1,l=l1++i::l2∧BS fs ms (.ops rd l1 e h) (.ops tr e1 h1)∧bF i e1=true∧BS fs ms (.op rd i.op (i.args.map e1.ev) h1) (.jm v h2)
  |_=>False
 |t=>BS fs ms t r
theorem mW(ho:Hf fs ms wo):∀(n:Nat) (t:Task) (k:iw→Bool),ev fs ms wo n t k=true→∃r,Ue fs ms t r∧k r=true
 |0,t,k,h=>by simp[ev] at h
 |n+1,t,k,h=>by
  have ur:∀rd l e hp k,ev fs ms wo n (.ops rd l e hp) k=true→∃r,Ue fs ms (.ops rd l e hp) r∧k r=true:=fun rd l e hp k=>mW ho n _ k;have l5:∀rd c e hp k,ev fs ms wo n (.code rd c e hp) k=true→∃r,BS fs ms (.code rd c e hp) r∧k r=true:=fun rd c e hp k=>mW ho n _ k;have TM:∀rd o vals hp k,ev fs ms wo n (.op rd o vals hp) k=true→∃r,BS fs ms (.op rd o vals hp) r∧k r=true:=fun rd o vals hp k=>mW ho n _ k;have ihv:∀fv args hp k,ev fs ms wo n (.cu fv args hp) k=true→∃r,BS fs ms (.cu fv args hp) r∧k r=true:=fun fv args hp k=>mW ho n _ k;have Sn:∀f args hp k,ev fs ms wo n (.call f args hp) k=true→∃r,BS fs ms (.call f args hp) r∧k r=true:=fun f args hp k=>mW ho n _ k;unfold ev at h;split at h
  ·rename_i rd c e hp;show∃r,BS fs ms (.code rd c e hp) r∧k r=true;split at h
   ·exact⟨_,.skip,h⟩
   ·obtain⟨r,hr,hk⟩:=ur _ _ _ _ _ h;split at hk
    ·exact⟨_,.ops hr,hk⟩
    ·obtain⟨l1,i,l2,tr,h1,rfl,g1,g2,g3⟩:=hr;exact⟨_,.Gm g1 g2 g3,hk⟩
    ·simp at hk
   ·rename_i l win;obtain⟨r,hr,hk⟩:=ur _ _ _ _ _ h;split at hk
    ·rename_i tr e' h';cases hb:pe (cg l tr h') l win tr with
     |false=>simp[hb] at hk
     |true=>rw[hb] at hk;exact⟨_,.cm hr (nQ hb),hk⟩
    ·unfold zH at hk;split at hk
     ·rename_i l1 i hl;have:=v5 hl;subst this;obtain⟨r2,CK,hk2⟩:=ur _ _ _ _ _ hk;split at hk2
      ·rename_i tr e1 h1;cases hw:bF i e1 with
       |false=>rw[hw] at hk2;simp at hk2
       |true=>
        rw[hw] at hk2;simp only[cond_true] at hk2;cases hb:(pe (cg l1 tr h1) l1 (win.take l1.length) tr&&nJ (l1++[i])&&bH i.op) with
        |false=>rw[hb] at hk2;simp at hk2
        |true=>
         rw[hb] at hk2;simp only[cond_true] at hk2;simp only[Bool.and_eq_true] at hb;obtain⟨r3,TI,oq⟩:=TM _ _ _ _ _ hk2;split at oq
         ·exact⟨_,.yp CK (nQ hb.1.1) hb.1.2 hb.2 hw TI,oq⟩
         ·simp at oq
      ·simp at hk2
     ·simp at hk
    ·simp at hk
   ·obtain⟨r,hr,hk⟩:=l5 _ _ _ _ _ h;split at hk
    ·obtain⟨r',hr',hk'⟩:=l5 _ _ _ _ _ hk;exact⟨_,.xX hr hr',hk'⟩
    ·rename_i x e1 h1 hne;refine⟨_,.ou hr ?_,hk⟩;cases x<;>simp_all[AX.bx]
    ·simp at hk
   ·split at h
    ·rename_i t ht;obtain⟨r,hr,hk⟩:=l5 _ _ _ _ _ h;exact⟨_,.cond ht hr,hk⟩
    ·simp at h
   ·rename_i id c;obtain⟨r,hr,hk⟩:=l5 _ _ _ _ _ h;split at hk
    ·rename_i i e1 h1;cases hb:Nat.beq i id with
     |true=>
      rw[hb] at hk;have:=Nat.eq_of_beq_eq_true hb;subst this;exact⟨_,.nD hr,hk⟩
     |false=>
      rw[hb] at hk;refine⟨_,.eO hr ?_,hk⟩;intro j hj hji;simp only[AX.exit.injEq] at hj;subst hj hji;simp at hb
    ·rename_i x e1 h1 hne;exact⟨_,.eO hr (fun i hi=>absurd hi (by intro hc;exact hne i hc)),hk⟩
    ·simp at hk
   ·obtain⟨r,hr,hk⟩:=l5 _ _ _ _ _ h;split at hk
    ·obtain⟨r',hr',hk'⟩:=l5 _ _ _ _ _ hk;exact⟨_,.mo hr hr',hk'⟩
    ·rename_i x e1 h1 hne;refine⟨_,.c9 hr ?_,hk⟩;cases x<;>simp_all[AX.bx]
    ·simp at hk
   ·exact⟨_,.exit,h⟩
   ·exact⟨_,.ret,h⟩
   ·rename_i g ps a b;split at h
    ·rename_i f first aF hg
     rw[p8] at h;obtain⟨r,hr,hk⟩:=Sn _ _ _ _ h;split at hk
     ·rename_i v h2;have hkeep:=hr.keep.2 hp.next 0 none e ps a b (by simp[Task.heap]) (by simp[Task.heap,Heap.bK]);obtain⟨st',ku,bW⟩:=hkeep;simp only[iw.heap] at bW;rw[bW] at hk;have hst:∀{x:Bool},cond (Nat.beq st' 1) false x=true→st'≠1∧x=true:=by
       intro x hx;cases hb:Nat.beq st' 1 with
       |true=>rw[hb] at hx;simp at hx
       |false=>rw[hb] at hx;exact⟨by(rintro rfl;simp at hb),hx⟩
      split at hk
      ·rename_i heq;simp only[Option.some.injEq,ck.loop.injEq] at heq;obtain⟨rfl,rfl,_⟩:=heq;obtain⟨h1,CF⟩:=hst hk;rw[jP] at CF;exact⟨_,.rangeFunc (x:=.normal) hg hr bW h1 (by simp),CF⟩
      ·rename_i heq;simp only[Option.some.injEq,ck.loop.injEq] at heq;obtain⟨rfl,rfl,_⟩:=heq;obtain⟨h1,CF⟩:=hst hk;rw[jP] at CF;exact⟨_,.rangeFunc (x:=.exit _) hg hr bW h1 (by simp),CF⟩
      ·rename_i heq;simp only[Option.some.injEq,ck.loop.injEq] at heq;obtain⟨rfl,rfl,_⟩:=heq;obtain⟨h1,CF⟩:=hst hk;rw[jP] at CF;exact⟨_,.rangeFunc (x:=.ret) hg hr bW h1 (by simp),CF⟩
      ·simp at hk
     ·exact⟨_,.jz hg hr,hk⟩
     ·simp at hk
    ·simp at h
   ·simp at h
  ·rename_i rd l e hp;show∃r,Ue fs ms (.ops rd l e hp) r∧k r=true;split at h
   ·exact⟨.ops [] e hp,(.nil:BS fs ms (.ops rd [] e hp) (.ops [] e hp)),h⟩
   ·rename_i i l;cases hw:bF i e with
    |true=>
     rw[hw] at h;obtain⟨r,hr,hk⟩:=TM _ _ _ _ _ h;split at hk
     ·rw[jJ] at hk;obtain⟨r',hr',hk'⟩:=ur _ _ _ _ _ hk;split at hk'
      ·rename_i tr e' h';exact⟨.ops _ e' h',(.on hw hr hr':BS fs ms (.ops rd (i::l) e hp) (.ops _ e' h')),hk'⟩
      ·rename_i v e1 h2;obtain⟨l1,j,l2,tr,h1,rfl,g1,g2,g3⟩:=hr';exact⟨.code (.panic v) e1 h2,⟨i::l1,j,l2,_,h1,rfl,.on hw hr g1,g2,g3⟩,hk'⟩
      ·simp at hk'
     ·rename_i v h2;exact⟨.code (.panic v) e h2,⟨[],i,l,[],hp,rfl,.nil,hw,hr⟩,hk⟩
     ·simp at hk
    |false=>
     rw[hw] at h;simp only[cond_false,jJ] at h;obtain⟨r,hr,hk⟩:=ur _ _ _ _ _ h;split at hk
     ·rename_i tr e' h';exact⟨.ops _ e' h',(.off hw hr:BS fs ms (.ops rd (i::l) e hp) (.ops _ e' h')),hk⟩
     ·rename_i v e1 h2;obtain⟨l1,j,l2,tr,h1,rfl,g1,g2,g3⟩:=hr;exact⟨.code (.panic v) e1 h2,⟨i::l1,j,l2,_,h1,rfl,.off hw g1,g2,g3⟩,hk⟩
     ·simp at hk
  ·rename_i rd o vals hp;show∃r,BS fs ms (.op rd o vals hp) r∧k r=true;split at h
   ·split at h
    ·rename_i v hv;rw[yy] at h;exact⟨_,.CN hv,h⟩
    ·simp at h
   ·split at h
    ·rename_i x f hv;rw[yy,p8] at h;exact⟨_,.ME hv,h⟩
    ·simp at h
   ·split at h
    ·rename_i v hv;rw[yy] at h;exact⟨_,.Fa hv,h⟩
    ·simp at h
   ·obtain⟨v,h1,hv,hk⟩:=FP h;rw[yy] at hk;exact⟨_,.KE hv,hk⟩
   ·split at h
    ·obtain⟨r,hr,hk⟩:=ihv _ _ _ _ h;cases hr with
     |cu hc=>exact⟨_,.lI (.cu hc),hk⟩
     |oE hc=>exact⟨_,.nL (.oE hc),hk⟩
     |yield h1 h2 h3 h4 h5 h6 h7=>exact⟨_,.lI (.yield h1 h2 h3 h4 h5 h6 h7),hk⟩
     |pN h1 h2 h3 h4 h5 h6 h7 h8 h9 h10=>exact⟨_,.nL (.pN h1 h2 h3 h4 h5 h6 h7 h8 h9 h10),hk⟩
    ·simp at h
   ·split at h
    ·split at h
     ·rename_i f hf;obtain⟨r,hr,hk⟩:=Sn _ _ _ _ h;rcases hr.A4 with⟨v,h1,rfl⟩|⟨v,h1,rfl⟩
      ·exact⟨_,.jU hf hr,hk⟩
      ·exact⟨_,.kP hf hr,hk⟩
     ·simp at h
    ·simp at h
   ·unfold HS at h;split at h
    ·exact⟨_,.qc,h⟩
    ·simp at h
   ·simp at h
  ·rename_i fv args hp;show∃r,BS fs ms (.cu fv args hp) r∧k r=true;split at h
   ·obtain⟨r,hr,hk⟩:=Sn _ _ _ _ h;rcases hr.A4 with⟨v,h1,rfl⟩|⟨v,h1,rfl⟩
    ·exact⟨_,.cu hr,hk⟩
    ·exact⟨_,.oE hr,hk⟩
   ·rename_i L;split at h
    ·rename_i bD e ps a b hg;cases hc:(Nat.beq args.length ps.length&&Nat.ble (L+1) hp.next) with
     |false=>rw[hc] at h;simp at h
     |true=>
      rw[hc] at h;simp only[cond_true] at h;simp only[Bool.and_eq_true] at hc;have hlen:=Nat.eq_of_beq_eq_true hc.1;have hL:L<hp.next:=Nat.le_of_ble_eq_true hc.2;obtain⟨r,hr,hk⟩:=l5 _ _ _ _ _ h;split at hk
      ·rename_i e2 h2;obtain⟨st',ku,bW⟩:=hr.keep.2 L 0 bD e ps a b hL hg;simp only[iw.heap] at bW;rw[bW] at hk;split at hk
       ·rename_i heq;simp only[Option.some.injEq,ck.loop.injEq] at heq;obtain⟨rfl,rfl,_⟩:=heq;rw[jP] at hk;obtain⟨r',hr',hk'⟩:=l5 _ _ _ _ _ hk;have Ox:L<h2.next:=Nat.lt_of_lt_of_le hL hr.keep.1;split at hk'
        ·unfold vC at hk';split at hk'
         ·rename_i id A l hbx;cases hn:(aR a&&aR A) with
          |false=>rw[hn] at hk';simp at hk'
          |true=>
           rw[hn] at hk';simp only[cond_true] at hk';simp only[Bool.and_eq_true] at hn;obtain⟨rA,hrA,V0⟩:=l5 _ _ _ _ _ hk';split at V0
           ·obtain⟨rl,hrl,EX⟩:=ur _ _ _ _ _ V0;split at EX
            ·obtain⟨l1,i,l2,tr,Nl,rfl,g1,g2,g3⟩:=hrl;exact⟨_,.pN hg hlen hr hn.1 bW hn.2 hrA g1 g2 g3,EX⟩
            ·simp at EX
           ·simp at V0
         ·simp at hk'
        ·rename_i x e4 h4 hnp;obtain⟨J8,o7,RL⟩:=hr'.keep.2 L 1 ku e ps a b Ox (by simp[Task.heap,Heap.bl]);rw[jP] at hk';exact⟨_,.yield hg hlen hr bW hr' (fun v hv=>hnp v hv) RL,hk'⟩
        ·simp at hk'
       ·simp at hk
      ·simp at hk
    ·simp at h
   ·simp at h
  ·rename_i f args hp;show∃r,BS fs ms (.call f args hp) r∧k r=true;split at h
   ·rename_i v h1 hor;exact⟨_,ho _ _ _ _ _ hor,h⟩
   split at h
   ·rename_i af Rp;split at h
    ·cases hl:Nat.ble args.length af.ntmps with
     |false=>rw[hl] at h;simp at h
     |true=>
      rw[hl] at h;simp only[cond_true,nk] at h;obtain⟨r,hr,hk⟩:=l5 _ _ _ _ _ h;split at hk
      ·split at hk
       ·split at hk
        ·rename_i vs hvs;rw[yy] at hk;exact⟨_,.call Rp (Nat.le_of_ble_eq_true hl) hr (.inl rfl) hvs,hk⟩
        ·simp at hk
       ·split at hk
        ·rename_i vs hvs;rw[yy] at hk;exact⟨_,.call Rp (Nat.le_of_ble_eq_true hl) hr (.inr rfl) hvs,hk⟩
        ·simp at hk
       ·exact⟨_,.vr Rp (Nat.le_of_ble_eq_true hl) hr,hk⟩
       ·simp at hk
      ·simp at hk
    ·rename_i d hd;obtain⟨A,l1,dst,a,rest⟩:=d;have hbody:=GI hd;unfold Ok at h;simp only at h;cases hl:(Nat.ble args.length af.ntmps&&aR A) with
     |false=>rw[hl] at h;simp at h
     |true=>
      rw[hl] at h;simp only[cond_true,nk] at h;simp only[Bool.and_eq_true] at hl;obtain⟨r1,CJ,uX⟩:=l5 _ _ _ _ _ h;split at uX
      ·obtain⟨r2,CK,hk2⟩:=ur _ _ _ _ _ uX;split at hk2
       ·rename_i tr e2 h2;split at hk2
        ·rename_i g first aF AD
         obtain⟨r3,TI,oq⟩:=l5 _ _ _ _ _ hk2;split at oq
         ·rename_i x e3 h3;cases hx:I6 x with
          |false=>rw[hx] at oq;simp at oq
          |true=>
           rw[hx] at oq;simp only[cond_true] at oq;split at oq
           ·rename_i ag fI;split at oq
            ·rename_i t l2 dS Xp;cases hc:(Nat.ble (first++aF).length ag.ntmps&&DG ag.results&&aR dS&&lN l2) with
             |false=>rw[hc] at oq;simp at oq
             |true=>
              rw[hc] at oq;simp only[cond_true] at oq;simp only[Bool.and_eq_true] at hc;obtain⟨r4,Wl,RT⟩:=ur _ _ _ _ _ oq;split at RT
              ·rename_i KG e4 h4;have hh:=nN hc.2 Wl;subst hh;obtain⟨r5,Xl,Kv⟩:=l5 _ _ _ _ _ RT;have KC:x=.normal∨x=.ret∨∃v,x=.panic v:=by
                cases x with
                |normal=>exact .inl rfl
                |ret=>exact .inr (.inl rfl)
                |panic v=>exact .inr (.inr ⟨v,rfl⟩)
                |exit id=>simp[I6] at hx
               have R2:ag.results=[]:=by
                have:=hc.1.1.2;cases DD:ag.results with
                |nil=>rfl
                |cons _ _=>rw[DD] at this;simp[DG] at this
               split at Kv
               ·rename_i y e5 h5;split at Kv
                ·split at Kv
                 ·rename_i vs hvs;exact⟨_,.tY Rp (Nat.le_of_ble_eq_true hl.1) hbody CJ hl.2 CK AD TI KC fI (Nat.le_of_ble_eq_true hc.1.1.1) (y7 Xp) R2 hc.1.2 Wl hc.2 Xl (.inl rfl) hvs,Kv⟩
                 ·simp at Kv
                ·split at Kv
                 ·rename_i vs hvs;exact⟨_,.tY Rp (Nat.le_of_ble_eq_true hl.1) hbody CJ hl.2 CK AD TI KC fI (Nat.le_of_ble_eq_true hc.1.1.1) (y7 Xp) R2 hc.1.2 Wl hc.2 Xl (.inr rfl) hvs,Kv⟩
                 ·simp at Kv
                ·simp at Kv
               ·simp at Kv
              ·simp at RT
            ·simp at oq
           ·simp at oq
         ·simp at oq
        ·simp at hk2
       ·simp at hk2
      ·simp at uX
   ·simp at h
  ·simp at h
end
end Ads
end Go.Proofs.Ytecdcefacdodgaa
set_option linter.unusedSimpArgs false
set_option linter.unusedVariables false
namespace Go.Proofs.Ytecdcefacdodgaa
namespace Ads
def Tm(o:Qb)(args:List AV):Option (ck×(Nat→AV)):=
 match o with
 |.alloc gH=>match args with
  |[]=>some (.cells gH true 0,fun b=>.ptr b 0)
  |_=>none
 |.box=>l1 args fun v=>some (.cells v.cells true 0,fun b=>.ptr b 0)
 |o=>aI o args
theorem CQ(o:Qb)(args:List AV):Tm o args=aI o args:=by
 cases o
 case alloc z=>cases args<;>rfl
 case box=>rcases args with _|⟨x,_|⟨y,r⟩⟩<;>rfl
 all_goals rfl
def XC(o:CC)(args:List AV)(h:Heap):Option AV:=
 match o with
 |.c8=>l1 args fun x=>Bb x fun b o=>h.c8 b o
 |.bI n=>l1 args fun x=>Bb x fun b o=>(h.bI b o n).map .agg
 |o=>rI o args h
theorem PT(o:CC)(args:List AV)(h:Heap):XC o args h=rI o args h:=by
 cases o
 case c8=>rcases args with _|⟨x,_|⟨y,r⟩⟩<;>first|rfl|(cases x<;>rfl)
 case bI n=>rcases args with _|⟨x,_|⟨y,r⟩⟩<;>first|rfl|(cases x<;>rfl)
 all_goals rfl
def LR(n:Nat)(args:List AV)(h:Heap)(k:AV→Heap→Bool):Bool:=
 match args with
 |[x,v]=>match x with
  |.ptr b o=>cond (Nat.beq v.cells.length n) (rH h b o v.cells fun h=>k .undef h) false
  |_=>false
 |_=>false
def W3(o:yb)(args:List AV)(h:Heap)(k:AV→Heap→Bool):Bool:=
 match o with
 |.store n=>LR n args h k
 |o=>Q2 o args h k
theorem Oc(o:yb)(args:List AV)(h:Heap)(k:AV→Heap→Bool):W3 o args h k=Q2 o args h k:=by
 cases o
 case store n=>rcases args with _|⟨x,_|⟨y,_|⟨z,r⟩⟩⟩<;>first|rfl|(cases x<;>rfl)
 all_goals rfl
def Wy(k:iw→Bool)(r:iw):Bool:=match r with
 |.ops tr e' h'=>k (.code .normal e' h')
 |.code (.panic v) e1 h1=>k (.code (.panic v) e1 h1)
 |_=>false
def Sq(ev:Rec)(rd:Bool)(l:List bh)(win:List (List Nat))(e:Env)(h:Heap)(k:iw→Bool)(r:iw):Bool:=match r with
 |.ops tr e' h'=>cond (pe (cg l tr h') l win tr) (k (.code .normal e' h')) false
 |.code (.panic _) _ _=>zH ev rd l win e h k
 |_=>false
def Ss(ev:Rec)(rd:Bool)(b:AC)(k:iw→Bool)(r:iw):Bool:=match r with
 |.code .normal e1 h1=>ev (.code rd b e1 h1) k
 |.code x e1 h1=>k (.code x e1 h1)
 |_=>false
def Pw(id:Nat)(k:iw→Bool)(r:iw):Bool:=match r with
 |.code (.exit i) e1 h1=>cond (Nat.beq i id) (k (.code .normal e1 h1)) (k (.code (.exit i) e1 h1))
 |.code x e1 h1=>k (.code x e1 h1)
 |_=>false
def Px(e:Env)(ps:List Nat)(a b:AC)(L:Nat)(k:iw→Bool)(r:iw):Bool:=match r with
 |.val v h2=>match h2.get L with
  |some (.loop st none _ _ _ _)=>cond (Nat.beq st 1) false (lf h2 L (.loop 3 none e ps a b) fun h3=>k (.code .normal e h3))
  |some (.loop st (some (.exit id)) _ _ _ _)=>cond (Nat.beq st 1) false (lf h2 L (.loop 3 (some (.exit id)) e ps a b) fun h3=>k (.code (.exit id) e h3))
  |some (.loop st (some .ret) _ _ _ _)=>cond (Nat.beq st 1) false (lf h2 L (.loop 3 (some .ret) e ps a b) fun h3=>k (.code .ret e h3))
  |_=>false
 |.jm v h2=>k (.code (.panic v) e h2)
 |_=>false
def LQ(ev:Rec)(rd:Bool)(g:bA)(ps:List Nat)(a b:AC)(e:Env)(h:Heap)(k:iw→Bool):Bool:=match rd,e.ev g with
 |false,.func (.func f) first aF=>newF h (.loop 0 none e ps a b) fun h1=>ev (.call f (first++(.yield h.next::aF)) h1) (Px e ps a b h.next k)
 |_,_=>false
def Oj(ev:Rec)(rd:Bool)(v:AV)(a b:AC)(e:Env)(h:Heap)(k:iw→Bool):Bool:=match v with
 |.bool t=>ev (.code rd (cond t a b) e h) k
 |_=>false
def Oi(ev:Rec)(rd:Bool)(c:AC)(e:Env)(h:Heap)(k:iw→Bool):Bool:=match c with
 |.skip=>k (.code .normal e h)
 |.ops l=>ev (.ops rd l e h) (Wy k)
 |.cm l win=>ev (.ops rd l e h) (Sq ev rd l win e h k)
 |.seq a b=>ev (.code rd a e h) (Ss ev rd b k)
 |.cond c a b=>Oj ev rd (e.ev c) a b e h k
 |.block id c=>ev (.code rd c e h) (Pw id k)
 |.loop c=>ev (.code rd c e h) (Ss ev rd (.loop c) k)
 |.exit id=>k (.code (.exit id) e h)
 |.ret=>k (.code .ret e h)
 |.rangeFunc g ps a b=>LQ ev rd g ps a b e h k
 |.bad=>false
def NG(h:Heap)(vals:List AV)(v:AV)(on:Bool)(k:iw→Bool)(r:iw):Bool:=match r with
 |.ops tr e' h'=>k (.ops (⟨h,vals,v,on⟩::tr) e' h')
 |.code (.panic v) e1 h2=>k (.code (.panic v) e1 h2)
 |_=>false
def Wz(ev:Rec)(rd:Bool)(i:bh)(l:List bh)(e:Env)(h:Heap)(k:iw→Bool)(r:iw):Bool:=match r with
 |.val v h1=>iE e i.dst v fun e1=>ev (.ops rd l e1 h1) (NG h (i.args.map e.ev) v true k)
 |.jm v h2=>k (.code (.panic v) e h2)
 |_=>false
def Q7(ev:Rec)(rd:Bool)(l:List bh)(e:Env)(h:Heap)(k:iw→Bool):Bool:=match l with
 |[]=>k (.ops [] e h)
 |i::l=>cond (bF i e) (ev (.op rd i.op (i.args.map e.ev) h) (Wz ev rd i l e h k))
   (iE e i.dst .undef fun e1=>ev (.ops rd l e1 h) (NG h (i.args.map e.ev) .undef false k))
def Su(h:Heap)(k:iw→Bool)(o:Option AV):Bool:=match o with
 |some v=>fV v fun v=>k (.val v h)
 |none=>false
def Sr(h:Heap)(k:iw→Bool)(o:Option (ck×(Nat→AV))):Bool:=match o with
 |some (x,f)=>fV (f h.next) fun v=>newF h x fun h1=>k (.val v h1)
 |none=>false
def LN(ev:Rec)(vals:List AV)(h:Heap)(k:iw→Bool):Bool:=match vals with
 |fv::args=>ev (.cu fv args h) k
 |[]=>false
section
variable (fs:Nat→Option az) (ms:Nat→String→Option Nat) (wo:NW)
def Q5(ev:Rec)(name:String)(vals:List AV)(h:Heap)(k:iw→Bool):Bool:=match vals with
 |.iface t x::args=>match ms t name with
  |some f=>ev (.call f (x::args) h) k
  |none=>false
 |_=>false
def HQ(ev:Rec)(o:fh)(vals:List AV)(h:Heap)(k:iw→Bool):Bool:=match o with
 |.p o=>Su h k (KF o vals)
 |.a o=>Sr h k (Tm o vals)
 |.r o=>Su h k (XC o vals h)
 |.e o=>W3 o vals h fun v h1=>fV v fun v=>k (.val v h1)
 |.call=>LN ev vals h k
 |.invoke name=>Q5 ms ev name vals h k
 |.panic=>HS vals h k
 |_=>false
def Mm(ev:Rec)(e2:Env)(h3:Heap)(h:Heap)(L:Nat)(e:Env)(ps:List Nat)(a b:AC)(k:iw→Bool)(r:iw):Bool:=match r with
 |.code (.panic _) _ _=>vC ev a b e2 h3 k
 |.code x e4 h4=>lf h4 L (.loop (cond x.bx 0 2) (dn x) e ps a b) fun h5=>k (.val (.bool x.bx) h5)
 |_=>false
def Ml(ev:Rec)(h:Heap)(L:Nat)(e:Env)(ps:List Nat)(a b:AC)(k:iw→Bool)(r:iw):Bool:=match r with
 |.code .normal e2 h2=>match h2.get L with
  |some (.loop 0 bZ _ _ _ _)=>lf h2 L (.loop 1 bZ e ps a b) fun h3=>ev (.code true b e2 h3) (Mm ev e2 h3 h L e ps a b k)
  |_=>false
 |_=>false
def LU(ev:Rec)(L:Nat)(args:List AV)(h:Heap)(k:iw→Bool):Bool:=match h.get L with
 |some (.loop 0 bD e ps a b)=>cond (Nat.beq args.length ps.length&&Nat.ble (L+1) h.next)
   (ev (.code true a (eX ps args e) h) (Ml ev h L e ps a b k)) false
 |_=>false
def LP(ev:Rec)(fv:AV)(args:List AV)(h:Heap)(k:iw→Bool):Bool:=match fv with
 |.func (.func f) first aF=>ev (.call f (first++(args++aF)) h) k
 |.yield L=>LU ev L args h k
 |_=>false
def WA(rs:List qP)(e:Env)(h:Heap)(k:iw→Bool):Bool:=match fE e h rs with
 |some vs=>fV (cI vs) fun v=>k (.val v h)
 |none=>false
def Wx(rs:List qP)(k:iw→Bool)(r:iw):Bool:=match r with
 |.code x e h1=>match x with
  |.normal|.ret=>WA rs e h1 k
  |.panic v=>k (.jm v h1)
  |_=>false
 |_=>false
def Oh(ev:Rec)(af:az)(args:List AV)(h:Heap)(k:iw→Bool):Bool:=
 cond (Nat.ble args.length af.ntmps) (lT af.ntmps args fun e0=>ev (.code false af.body e0 h) (Wx af.results k)) false
def Q8{β:Type}:Tr β→(Tr β→Bool)→Bool
 |.nil,k=>k .nil
 |.node l v r,k=>Q8 l fun l=>Q8 r fun r=>match v with
  |none=>k (.node l none r)
  |some x=>k (.node l (some x) r)
theorem Dd{β:Type}:∀(t:Tr β) (k:Tr β→Bool),Q8 t k=k t
 |.nil,k=>rfl
 |.node l v r,k=>by
  simp only[Q8];rw[Dd l,Dd r];cases v<;>rfl
def Vg(h:Heap)(k:Heap→Bool):Bool:=match h with
 |⟨n,m⟩=>oN n fun n=>Q8 m fun m=>k ⟨n,m⟩
theorem Ol(h:Heap)(k:Heap→Bool):Vg h k=k h:=by cases h;simp only[Vg,uV,Dd]
def LO(ev:Rec)(f:Nat)(args:List AV)(h:Heap)(k:iw→Bool):Bool:=match fs f with
 |some af=>match Au af.body with
  |none=>Oh ev af args h k
  |some d=>Ok fs ev d af args h k
 |none=>false
def HN(ev:Rec)(f:Nat)(args:List AV)(h:Heap)(k:iw→Bool):Bool:=match wo f args h with
 |some (v,h1)=>Vg h1 fun h1=>k (.val v h1)
 |none=>LO fs ev f args h k
def tg(ev:Rec)(t:Task)(k:iw→Bool):Bool:=match t with
 |.code rd c e h=>Oi ev rd c e h k
 |.ops rd l e h=>Q7 ev rd l e h k
 |.op rd o vals h=>HQ ms ev o vals h k
 |.cu fv args h=>LP ev fv args h k
 |.call f args h=>HN fs wo ev f args h k
 |.any ..=>false
def Q4:Nat→Rec
 |0=>fun _ _=>false
 |n+1=>fun t k=>tg fs ms wo (Q4 n) t k
theorem HO:∀n,Q4 fs ms wo n=ev fs ms wo n
 |0=>by funext t k;rfl
 |n+1=>by
  funext t k
  simp only[Q4,HO n];cases t with
  |code rd c e h=>
   cases c<;>rfl
  |ops rd l e h=>cases l<;>rfl
  |op rd o vals h=>
   cases o
   case p o=>simp only[tg,HQ,DP];rfl
   case a o=>simp only[tg,HQ,CQ];rfl
   case r o=>simp only[tg,HQ,PT];rfl
   case e o=>simp only[tg,HQ,Oc];rfl
   all_goals rfl
  |cu fv args h=>cases fv<;>rfl
  |call f args h=>
   simp only[tg,HN,Ol];rfl
  |any rd c e h=>rfl
end
theorem HP{fs:Nat→Option az}{ms:Nat→String→Option Nat}{wo:NW}{n:Nat}{t:Task}{k:iw→Bool}(h:Q4 fs ms wo n t k=true):ev fs ms wo n t k=true:=by
 rw[←HO];exact h
end Ads
end Go.Proofs.Ytecdcefacdodgaa
set_option linter.unusedSimpArgs false
set_option linter.unusedVariables false
namespace Go.Proofs.Ytecdcefacdodgaa
namespace Ads
def KH(q:Nat→az→Prop):List (Nat×az)→Prop
 |[]=>True
 |p::l=>q p.1 p.2∧KH q l
def SG:List (Nat×az)→Tr az
 |[]=>.nil
 |p::l=>(SG l).set p.1 p.2
theorem su{q:Nat→az→Prop}:∀{l:List (Nat×az)},KH q l→∀{f:Nat} {af:az},(SG l).get f=some af→q f af
 |[],_,f,af,h=>by simp[SG,Tr.get] at h
 |p::l,hq,f,af,h=>by
  simp only[SG,Tr.bl] at h;split at h
  ·rename_i he;cases h
   rw[he];exact hq.1
  ·exact su hq.2 h
section
variable {P:Program} {fs:Nat→Option az} {ms:Nat→String→Option Nat}
theorem Gc(H0:Nat)(ρ:cn)(w:World)(hl:H0≤w.heap.size):Inv P H0 ρ (fun _=>False) ⟨0,.nil⟩ w:=
 ⟨fun b hb=>hb.elim,fun b _=>rfl,hl,fun b x hb _=>hb.elim,fun b b' hb _ _ _ _=>hb.elim⟩
structure Kept(w w':World):Prop where
 size:w.heap.size≤w'.heap.size
 old:∀r:Nat,r<w.heap.size→w'.heap[r]?=w.heap[r]?
 tape:w'.tape=w.tape
 os:w'.os=w.os
 output:w'.output=w.output
theorem BS.calls(sys:kZ P fs ms){f:Nat}{args:List AV}{v:AV}{h1:Heap}(h:BS fs ms (.call f args ⟨0,.nil⟩) (.val v h1))(ha:aW (fun _=>False) args)(w:World):
  Calls P f (aa default args).toArray w fun e w'=>∃ρ,e=.returned (real ρ v)∧Kept w w':=by
 have hs:=(h.sound sys w.heap.size).1;have:=hs default (fun _=>False) w 0 (Gc _ _ w (Nat.le_refl _)) ha;rw[callsIn_wide] at this;refine this.mono ?_;rintro e w' ⟨ρ',rfl,hi,hx,hv⟩;exact⟨ρ',rfl,hx.size,fun r hr=>hx.frame r hr (fun b hb=>hb.elim),hx.tape,hx.os,hx.output⟩
def isTrue:iw→Bool
 |.val (.bool true) _=>true
 |_=>false
theorem LV{wo:NW}(ho:Hf fs ms wo){n f:Nat}{h:Heap}(he:ev fs ms wo n (.call f [] h) isTrue=true):∃h1,BS fs ms (.call f [] h) (.val (.bool true) h1):=by
 obtain⟨r,hr,hk⟩:=mW ho n _ _ he;cases r with
 |val v h1=>
  cases v with
  |bool b=>cases b with
   |true=>exact⟨h1,hr⟩
   |false=>simp[isTrue] at hk
  |_=>simp[isTrue] at hk
 |_=>simp[isTrue] at hk
end
end Ads
end Go.Proofs.Ytecdcefacdodgaa
set_option linter.unusedSimpArgs false
set_option linter.unusedVariables false
namespace Go.Proofs.Ytecdcefacdodgaa
namespace Ads
def LX{α:Type}:List AV→(List AV→α)→α
 |[],k=>k []
 |v::vs,k=>fC v fun v=>LX vs fun vs=>k (v::vs)
theorem zT{α:Type}:∀(l:List AV) (k:List AV→α),LX l k=k l
 |[],k=>rfl
 |v::vs,k=>by simp[LX,Bg,zT vs]
section
variable (fs:Nat→Option az) (ms:Nat→String→Option Nat) (rd:Bool)
abbrev AB(t:Bool)(A B:Prop):Prop:=@Bool.rec (fun _=>Prop) B A t
def Comes(c:AC)(e:Env)(h:Heap)(Q:AX→Env→Heap→Prop):Prop:=∃x e' h',BS fs ms (.code rd c e h) (.code x e' h')∧Q x e' h'
def vf(l:List bh)(e:Env)(h:Heap)(Q:Env→Heap→Prop):Prop:=∃tr e' h',BS fs ms (.ops rd l e h) (.ops tr e' h')∧Q e' h'
def ya(f:Nat)(args:List AV)(h:Heap)(Q:AV→Heap→Prop):Prop:=∃v h',BS fs ms (.call f args h) (.val v h')∧Q v h'
def P0(o:pR)(vals:List AV):Bool:=
 match o with
 |.bin op=>match vals with
  |.str _::_=>match op with
   |.add=>false
   |_=>true
  |_=>match op with
   |.quo|.rem|.shl|.shr=>false
   |_=>true
 |.aH _|.ig _ _|.Ga _ _ _|.Gb|.slice _ _ _ _|.lQ _ _|.gW _ _ _ _ _=>false
 |_=>true
def wpOp(o:fh)(vals:List AV)(h:Heap)(k:AV→Heap→Prop):Prop:=
 match o with
 |.p .pick=>match vals with
  |[.bool c,a,b]=>AB c (fC a fun v=>k v h) (fC b fun v=>k v h)
  |_=>False
 |.p o=>match P0 o vals with
  |true=>match KF o vals with
   |some v=>fC v fun v=>k v h
   |none=>False
  |false=>∃v,KF o vals=some v∧fC v fun v=>k v h
 |.a o=>match Tm o vals with
  |some (x,f)=>k (f h.next) (h.new x)
  |none=>False
 |.r o=>∃v,rI o vals h=some v∧k v h
 |.e o=>∃v h1,eI o vals h=some (v,h1)∧k v h1
 |.call=>match vals with
  |.func (.func f) first aF::args=>ya fs ms f (first++(args++aF)) h k
  |fv::args=>∃v h1,BS fs ms (.cu fv args h) (.val v h1)∧k v h1
  |[]=>False
 |.invoke name=>match vals with
  |.iface t x::args=>match ms t name with
   |some f=>ya fs ms f (x::args) h k
   |none=>False
  |_=>False
 |_=>False
def GP:List bh→Env→Heap→(Env→Heap→Prop)→Prop
 |[],e,h,k=>k e h
 |i::l,e,h,k=>match i.guard with
  |none=>LX (i.args.map e.ev) fun vals=>wpOp fs ms i.op vals h fun v h1=>iE e i.dst v fun e1=>GP l e1 h1 k
  |some (d,want)=>match e.get d with
   |.bool b=>match want with
    |true=>AB b (LX (i.args.map e.ev) fun vals=>wpOp fs ms i.op vals h fun v h1=>iE e i.dst v fun e1=>GP l e1 h1 k) (iE e i.dst .undef fun e1=>GP l e1 h k)
    |false=>AB b (iE e i.dst .undef fun e1=>GP l e1 h k) (LX (i.args.map e.ev) fun vals=>wpOp fs ms i.op vals h fun v h1=>iE e i.dst v fun e1=>GP l e1 h1 k)
   |_=>iE e i.dst .undef fun e1=>GP l e1 h k
def Eo:AC→Env→Heap→(AX→Env→Heap→Prop)→Prop
 |.skip,e,h,k=>k .normal e h
 |.ops l,e,h,k=>GP fs ms l e h fun e h=>k .normal e h
 |.cm l win,e,h,k=>match win.all (·.isEmpty) with
  |true=>GP fs ms l e h fun e h=>k .normal e h
  |false=>∃tr e' h',BS fs ms (.ops rd l e h) (.ops tr e' h')∧lO l win tr h'∧k .normal e' h'
 |.seq a b,e,h,k=>Eo a e h fun x e1 h1=>match x with
  |.normal=>Eo b e1 h1 k
  |x=>k x e1 h1
 |.cond c a b,e,h,k=>match e.ev c with
  |.bool t=>AB t (Eo a e h k) (Eo b e h k)
  |_=>False
 |.block id c,e,h,k=>Eo c e h fun x e1 h1=>match x with
  |.exit i=>match Nat.beq i id with
   |true=>k .normal e1 h1
   |false=>k (.exit i) e1 h1
  |x=>k x e1 h1
 |.loop c,e,h,k=>Comes fs ms rd (.loop c) e h k
 |.rangeFunc f ps a b,e,h,k=>Comes fs ms rd (.rangeFunc f ps a b) e h k
 |.exit id,e,h,k=>k (.exit id) e h
 |.ret,e,h,k=>k .ret e h
 |.bad,_,_,_=>False
end
section
variable {fs:Nat→Option az} {ms:Nat→String→Option Nat} {rd:Bool}
theorem xp{o:fh}{vals:List AV}{h:Heap}{k:AV→Heap→Prop}(hw:wpOp fs ms o vals h k):∃v h1,BS fs ms (.op rd o vals h) (.val v h1)∧k v h1:=by
 unfold wpOp at hw;split at hw
 ·split at hw
  ·rename_i c a b;cases c with
   |true=>exact⟨_,_,.CN (v:=a) rfl,by rw[←Bg a fun v=>k v h];exact hw⟩
   |false=>exact⟨_,_,.CN (v:=b) rfl,by rw[←Bg b fun v=>k v h];exact hw⟩
  ·exact hw.elim
 ·split at hw
  ·split at hw
   ·rename_i v hv;rw[DP] at hv;rw[Bg] at hw;exact⟨_,_,.CN hv,hw⟩
   ·exact hw.elim
  ·obtain⟨v,hv,hw⟩:=hw;rw[DP] at hv;rw[Bg] at hw;exact⟨_,_,.CN hv,hw⟩
 ·split at hw
  ·rename_i x f hv;rw[CQ] at hv;exact⟨_,_,.ME hv,hw⟩
  ·exact hw.elim
 ·obtain⟨v,hv,hk⟩:=hw;exact⟨_,_,.Fa hv,hk⟩
 ·obtain⟨v,h1,hv,hk⟩:=hw;exact⟨_,_,.KE hv,hk⟩
 ·split at hw
  ·obtain⟨v,h1,hb,hk⟩:=hw;exact⟨_,_,.lI (.cu hb),hk⟩
  ·obtain⟨v,h1,hb,hk⟩:=hw;exact⟨_,_,.lI hb,hk⟩
  ·exact hw.elim
 ·split at hw
  ·split at hw
   ·rename_i f hf;obtain⟨v,h1,hb,hk⟩:=hw;exact⟨_,_,.jU hf hb,hk⟩
   ·exact hw.elim
  ·exact hw.elim
 ·exact hw.elim
theorem kY:∀{l:List bh} {e:Env} {h:Heap} {k:Env→Heap→Prop},GP fs ms l e h k→vf fs ms rd l e h k
 |[],e,h,k,hw=>⟨_,_,_,.nil,hw⟩
 |i::l,e,h,k,hw=>by
  unfold GP at hw;split at hw
  ·rename_i hg;rw[zT] at hw;obtain⟨v,h1,hb,hk⟩:=xp (rd:=rd) hw;rw[jJ] at hk;obtain⟨tr,e',h',hl,hk⟩:=kY hk;exact⟨_,_,_,.on (by simp[bF,hg]) hb hl,hk⟩
  ·rename_i d want hg;split at hw
   ·rename_i b hb;have dI:b=want→(LX (i.args.map e.ev) fun vals=>wpOp fs ms i.op vals h fun v h1=>iE e i.dst v fun e1=>GP fs ms l e1 h1 k)→vf fs ms rd (i::l) e h k:=by
     intro Vy hw;rw[zT] at hw;obtain⟨v,h1,hb',hk⟩:=xp (rd:=rd) hw;rw[jJ] at hk;obtain⟨tr,e',h',hl,hk⟩:=kY hk;exact⟨_,_,_,.on (by simp[bF,hg,hb,Vy]) hb' hl,hk⟩
    have hoff:b=!want→(iE e i.dst .undef fun e1=>GP fs ms l e1 h k)→vf fs ms rd (i::l) e h k:=by
     intro Vy hk;rw[jJ] at hk;obtain⟨tr,e',h',hl,hk⟩:=kY hk;exact⟨_,_,_,.off (by simp[bF,hg,hb,Vy]) hl,hk⟩
    cases want<;>cases b
    ·exact dI rfl hw
    ·exact hoff rfl hw
    ·exact hoff rfl hw
    ·exact dI rfl hw
   ·rename_i hne;rw[jJ] at hw;obtain⟨tr,e',h',hl,hk⟩:=kY hw;refine⟨_,_,_,.off ?_ hl,hk⟩;unfold bF;rw[hg];cases hv:e.get d with
    |bool b=>exact absurd hv (hne b)
    |_=>simp only[hv]
theorem sy{u:Nat→Heap}:∀{l:List bh} {win:List (List Nat)} {tr:List aG},win.all (·.isEmpty)=true→b8 u l win tr
 |[],_,_,_=>by simp[b8]
 |_::_,[],_,_=>by simp[b8]
 |_::_,_::_,[],_=>by simp[b8]
 |x::l,cs::win,m::tr,h=>by
  simp only[List.all_cons,Bool.and_eq_true] at h;simp only[b8];refine⟨?_,sy h.2⟩;split
  ·intro _ c hc;rw[List.isEmpty_iff.1 h.1] at hc;simp at hc
  ·trivial
theorem jF:∀{c:AC} {e:Env} {h:Heap} {k:AX→Env→Heap→Prop},Eo fs ms rd c e h k→Comes fs ms rd c e h k
 |.skip,e,h,k,hw=>⟨_,_,_,.skip,hw⟩
 |.ops l,e,h,k,hw=>by
  obtain⟨tr,e',h',hb,hk⟩:=kY (rd:=rd) (show GP fs ms l e h _ from hw);exact⟨_,_,_,.ops hb,hk⟩
 |.cm l win,e,h,k,hw=>by
  unfold Eo at hw;split at hw
  ·rename_i xO;obtain⟨tr,e',h',hb,hk⟩:=kY (rd:=rd) hw;exact⟨_,_,_,.cm hb (sy xO),hk⟩
  ·obtain⟨tr,e',h',hb,hr,hk⟩:=hw;exact⟨_,_,_,.cm hb hr,hk⟩
 |.seq a b,e,h,k,hw=>by
  obtain⟨x,e1,h1,hb,hk⟩:=jF (show Eo fs ms rd a e h _ from hw);cases x with
  |normal=>
   obtain⟨x2,e2,h2,jf,hk2⟩:=jF (show Eo fs ms rd b e1 h1 k from hk);exact⟨_,_,_,.xX hb jf,hk2⟩
  |exit i=>exact⟨_,_,_,.ou hb rfl,hk⟩
  |ret=>exact⟨_,_,_,.ou hb rfl,hk⟩
  |panic v=>exact⟨_,_,_,.ou hb rfl,hk⟩
 |.cond c a b,e,h,k,hw=>by
  unfold Eo at hw;split at hw
  ·rename_i t ht;cases t with
   |true=>
    obtain⟨x,e1,h1,hb,hk⟩:=jF (show Eo fs ms rd a e h k from hw);exact⟨_,_,_,.cond ht hb,hk⟩
   |false=>
    obtain⟨x,e1,h1,hb,hk⟩:=jF (show Eo fs ms rd b e h k from hw);exact⟨_,_,_,.cond ht hb,hk⟩
  ·exact hw.elim
 |.block id c,e,h,k,hw=>by
  obtain⟨x,e1,h1,hb,hk⟩:=jF (show Eo fs ms rd c e h _ from hw);cases x with
  |exit i=>
   simp only at hk;split at hk
   ·rename_i Nr;have:=Nat.eq_of_beq_eq_true Nr;subst this;exact⟨_,_,_,.nD hb,hk⟩
   ·rename_i Nr;refine⟨_,_,_,.eO hb ?_,hk⟩;intro j hj hji;simp only[AX.exit.injEq] at hj;subst hj hji;simp at Nr
  |normal=>exact⟨_,_,_,.eO hb (by simp),hk⟩
  |ret=>exact⟨_,_,_,.eO hb (by simp),hk⟩
  |panic v=>exact⟨_,_,_,.eO hb (by simp),hk⟩
 |.loop c,e,h,k,hw=>hw
 |.rangeFunc f ps a b,e,h,k,hw=>hw
 |.exit id,e,h,k,hw=>⟨_,_,_,.exit,hw⟩
 |.ret,e,h,k,hw=>⟨_,_,_,.ret,hw⟩
 |.bad,e,h,k,hw=>hw.elim
theorem br{t:Bool}{A B:Prop}(h1:t=true→A)(h2:t=false→B):@Bool.rec (fun _=>Prop) B A t:=by
 cases t with
 |true=>exact h1 rfl
 |false=>exact h2 rfl
def Of(af:az)(Q:AV→Heap→Prop):AX→Env→Heap→Prop:=fun x e h=>match x with
 |.normal|.ret=>match fE e h af.results with
  |some vs=>LX vs fun vs=>match vs with
   |[v]=>Q v h
   |vs=>Q (.cC vs) h
  |none=>False
 |_=>False
theorem Q3{Q:AV→Heap→Prop}{vs:List AV}{h:Heap}(hk:LX vs fun vs=>match vs with
   |[v]=>Q v h
   |vs=>Q (.cC vs) h):Q (cI vs) h:=by
 rw[zT] at hk;rcases vs with _|⟨v,_|⟨u,r⟩⟩<;>exact hk
theorem WX{f:Nat}{af:az}{args:List AV}{h:Heap}{Q:AV→Heap→Prop}(hf:fs f=some af)(hlen:args.length≤af.ntmps)
  (hw:lT af.ntmps args fun e=>Eo fs ms false af.body e h (Of af Q)):ya fs ms f args h Q:=by
 rw[nk] at hw;obtain⟨x,e1,h1,hb,hk⟩:=jF hw;cases x with
 |normal=>
  simp only[Of] at hk;split at hk
  ·rename_i vs hvs;exact⟨_,_,.call hf hlen hb (.inl rfl) hvs,Q3 hk⟩
  ·exact hk.elim
 |ret=>
  simp only[Of] at hk;split at hk
  ·rename_i vs hvs;exact⟨_,_,.call hf hlen hb (.inr rfl) hvs,Q3 hk⟩
  ·exact hk.elim
 |exit i=>exact hk.elim
 |panic v=>exact hk.elim
theorem ya.mono{f:Nat}{args:List AV}{h:Heap}{Q Q':AV→Heap→Prop}(hc:ya fs ms f args h Q)(hq:∀v h',Q v h'→Q' v h'):ya fs ms f args h Q':=by
 obtain⟨v,h',hb,hk⟩:=hc;exact⟨v,h',hb,hq v h' hk⟩
theorem Comes.mono{c:AC}{e:Env}{h:Heap}{Q Q':AX→Env→Heap→Prop}(hc:Comes fs ms rd c e h Q)(hq:∀x e' h',Q x e' h'→Q' x e' h'):Comes fs ms rd c e h Q':=by
 obtain⟨x,e',h',hb,hk⟩:=hc;exact⟨x,e',h',hb,hq x e' h' hk⟩
theorem N4{c:AC}{e:Env}{h:Heap}{Q:AX→Env→Heap→Prop}
  (hw:Eo fs ms rd c e h fun x e1 h1=>match x with|.normal=>Comes fs ms rd (.loop c) e1 h1 Q|x=>Q x e1 h1):Comes fs ms rd (.loop c) e h Q:=by
 obtain⟨x,e1,h1,hb,hk⟩:=jF hw;cases x with
 |normal=>
  obtain⟨x2,e2,h2,jf,hk2⟩:=hk;exact⟨_,_,_,.mo hb jf,hk2⟩
 |exit i=>exact⟨_,_,_,.c9 hb rfl,hk⟩
 |ret=>exact⟨_,_,_,.c9 hb rfl,hk⟩
 |panic v=>exact⟨_,_,_,.c9 hb rfl,hk⟩
def sk:Nat→(Nat→Option AV)→Env
 |0,_=>.nil
 |d+1,g=>.node (sk d fun j=>g (2*j+1)) (g 0) (sk d fun j=>g (2*j+2))
def isFull:Nat→Env→Bool
 |0,.nil=>true
 |d+1,.node l _ r=>cond (isFull d l) (isFull d r) false
 |_,_=>false
theorem D9:∀(d:Nat) (e:Env),isFull d e=true→sk d (Tr.get e)=e
 |0,.nil,_=>rfl
 |0,.node _ _ _,h=>by simp[isFull] at h
 |d+1,.nil,h=>by simp[isFull] at h
 |d+1,.node l v r,h=>by
  simp only[isFull] at h;cases hl:isFull d l with
  |false=>rw[hl] at h;simp at h
  |true=>
   rw[hl] at h;simp only[cond_true] at h;have h1:(fun j=>(Tr.node l v r).get (2*j+1))=Tr.get l:=by
    funext j
    rw[Tr.gE _ _ (by omega)];simp only[Tr.left]
    congr 1
    omega
   have h2:(fun j=>(Tr.node l v r).get (2*j+2))=Tr.get r:=by
    funext j
    rw[Tr.eB _ _ (by omega) (by omega)];simp only[Tr.right]
    congr 1
    omega
   simp only[sk];rw[h1,h2,D9 d l hl,D9 d r h];simp[Tr.get]
def kn(l:List (Nat×AV))(g:Nat→Option AV)(i:Nat):Option AV:=
 match l with
 |[]=>g i
 |(j,v)::r=>cond (Nat.beq i j) (some v) (kn r g i)
def ve(e:Env):List (Nat×AV)→Prop
 |[]=>True
 |(i,v)::l=>Tr.get e i=some v∧ve e l
theorem I9{e:Env}:∀{l:List (Nat×AV)},ve e l→∀i,kn l (Tr.get e) i=Tr.get e i
 |[],_,i=>rfl
 |(j,v)::r,h,i=>by
  simp only[kn];cases hb:Nat.beq i j with
  |false=>exact I9 h.2 i
  |true=>
   have:=Nat.eq_of_beq_eq_true hb;subst this;exact h.1.symm
theorem NO{P:Env→Prop}{e:Env}(d:Nat)(l:List (Nat×AV))(hf:isFull d e=true)(hl:ve e l)(hc:∀g,P (sk d (kn l g))):P e:=by
 have:=hc (Tr.get e)
 rwa [show kn l (Tr.get e)=Tr.get e from funext (I9 hl),D9 d e hf] at this
theorem Q0{c:AC}{e:Env}{h:Heap}{Q:AX→Env→Heap→Prop}(d:Nat)(l:List (Nat×AV))(hf:isFull d e=true)(hl:ve e l)
  (hc:∀g,Comes fs ms rd c (sk d (kn l g)) h Q):Comes fs ms rd c e h Q:=NO (P:=fun e=>Comes fs ms rd c e h Q) d l hf hl hc
end
end Ads
end Go.Proofs.Ytecdcefacdodgaa
