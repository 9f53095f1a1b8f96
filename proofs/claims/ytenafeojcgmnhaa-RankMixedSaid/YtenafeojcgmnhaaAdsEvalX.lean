/-
  The pure operations once more, one small function each: for the kernel, that copies what it opens.
  An evaluator of big steps for Lean's kernel: continuations, data worked out before it is handed on. It is sound.
  The evaluator: loops' records are kept; comparing; the evaluator itself, and that it is sound.
  The evaluator itself, and that it is sound.
  The evaluator in small pieces: for the kernel, that copies what it opens.
  Tables of compiled functions; what a closed run comes to in the model.
  What code must come to, as a proposition that is worked out from the code: for functions whose arguments are not known.
-/
import Derived.Test.YtenafeojcgmnhaaAdsMain
set_option linter.unusedSimpArgs false
set_option linter.unusedVariables false
namespace Go.Proofs.Ytenafeojcgmnhaa
namespace Ads
def l1{α:Type}(args:List AV)(f:AV→Option α):Option α:=match args with
 |[x]=>f x
 |_=>none
def l2{α:Type}(args:List AV)(f:AV→AV→Option α):Option α:=match args with
 |[x,y]=>f x y
 |_=>none
def l3{α:Type}(args:List AV)(f:AV→AV→AV→Option α):Option α:=match args with
 |[x,y,z]=>f x y z
 |_=>none
def lc{α:Type}(args:List AV)(f:AV→List AV→Option α):Option α:=match args with
 |x::r=>f x r
 |_=>none
def yH{α:Type}(v:AV)(f:IntKind→Int→Option α):Option α:=match v with
 |.int k n=>f k n
 |_=>none
def Dv{α:Type}(v:AV)(f:Bool→Option α):Option α:=match v with
 |.bool b=>f b
 |_=>none
def Ca{α:Type}(v:AV)(f:List UInt8→Option α):Option α:=match v with
 |.str s=>f s
 |_=>none
def Ax{α:Type}(v:AV)(f:Nat→Nat→Option α):Option α:=match v with
 |.ptr b o=>f b o
 |_=>none
def Ja{α:Type}(v:AV)(f:List AV→Option α):Option α:=match v with
 |.agg cs=>f cs
 |_=>none
def LI{α:Type}(v:AV)(f:List AV→Option α):Option α:=match v with
 |.cg cs=>f cs
 |_=>none
def KR{α:Type}(v:AV)(f:Nat→Nat→Nat→Nat→Bool→Option α)(g:Option α):Option α:=match v with
 |.sl b o l c op=>f b o l c op
 |.aN=>g
 |_=>none
def rJ{α:Type}(v:AV)(f:Nat→Option α):Option α:=match asNat v with
 |some n=>f n
 |none=>none
def B1(op:BinOp)(x y:AV):Option AV:=
 match x with
 |.int k a=>yH y fun k' b=>cond (jQ op) (mN op k a b) (cond (decide (k=k')) (qJ op k a b) none)
 |.str a=>Ca y fun b=>yA op a b
 |_=>none
def qZ(size:Nat)(lo hi m:Bool)(x:AV)(r:List AV):Option AV:=
 match x with
 |.gj a=>(match bounds 0 0 lo hi m r with
  |some _=>some (.gj a)
  |none=>none)
 |.rest b o k=>(match bounds 0 0 lo hi m r with
  |some _=>cond m none (some (.rest b o k))
  |none=>none)
 |x=>KR x (fun b o len cap jC=>match bounds len cap lo hi m r with
  |some (l,h,mm)=>cond (Nat.beq mm l&&Nat.beq cap mm&&(jC&&!m&&!Nat.beq l 0)) (some (.rest b o (l*size))) (some (.sl b (o+cond (Nat.beq mm l) 0 (l*size)) (h-l) (mm-l) (cond m false jC)))
  |none=>none) (match bounds 0 0 lo hi m r with
  |some _=>some .aN
  |none=>none)
def Kn(o:pz)(args:List AV):Option AV:=
 match o with
 |.Fy=>l1 args some
 |.pick=>l3 args fun c a b=>Dv c fun c=>some (cond c a b)
 |.bin op=>l2 args (B1 op)
 |.eq k=>l2 args fun x y=>(Ce k x y).map .bool
 |.neq k=>l2 args fun x y=>(Ce k x y).map fun b=>.bool !b
 |.not=>l1 args fun x=>Dv x fun b=>some (.bool !b)
 |.neg=>l1 args fun x=>yH x fun k n=>some (.int k (k.wrap (0-n)))
 |.Ee=>l1 args fun x=>Ca x fun s=>some (.str s)
 |.conv k=>l1 args fun x=>yH x fun _ n=>some (.int k (k.wrap n))
 |.field off n g=>l1 args fun x=>Ja x fun cs=>part cs off n g
 |.ext i=>l1 args fun x=>LI x fun vs=>vs[i]?
 |.oJ=>l1 args fun x=>Ax x fun b o=>some (.ptr b o)
 |.va off=>l1 args fun x=>Ax x fun b o=>some (.ptr b (o+off))
 |.ak size=>l2 args fun x i=>KR x (fun b o len _ _=>rJ i fun i=>cond (Nat.ble (i+1) len) (some (.ptr b (o+i*size))) none) none
 |.bV size len=>l2 args fun x i=>Ax x fun b o=>rJ i fun i=>cond (Nat.ble (i+1) len) (some (.ptr b (o+i*size))) none
 |.EP size len g=>l2 args fun x i=>Ja x fun cs=>rJ i fun i=>cond (Nat.ble (i+1) len) (part cs (i*size) size g) none
 |.za=>l2 args fun x i=>Ca x fun s=>rJ i fun i=>(s[i]?).map fun b=>.int .u8 b.toNat
 |.build iJ parts=>(fill iJ parts args).map .agg
 |.uF t=>l1 args fun x=>some (.iface t x)
 |.tF fn n=>some (.func fn (args.take n) (args.drop n))
 |.dc=>l1 args fun x=>match x with
  |.gj _=>some (.int .i64 0)
  |.rest _ _ _=>some (.int .i64 0)
  |x=>KR x (fun _ _ len _ _=>some (.int .i64 len)) (some (.int .i64 0))
 |.zc=>l1 args fun x=>Ca x fun s=>some (.int .i64 s.length)
 |.EW n=>some (.int .i64 n)
 |.mx=>lc args fun x r=>kB max2 x r
 |.mn=>lc args fun x r=>kB min2 x r
 |.slice size lo hi m=>lc args fun x r=>qZ size lo hi m x r
 |.lP lo hi=>lc args fun x r=>Ca x fun s=>match bounds s.length s.length lo hi false r with
  |some (l,h,_)=>some (.str ((s.take h).drop l))
  |none=>none
 |.lO size len lo hi m=>lc args fun x r=>Ax x fun b o=>match bounds len len lo hi m r with
  |some (l,h,mm)=>some (.sl b (o+cond (Nat.beq mm l) 0 (l*size)) (h-l) (mm-l) false)
  |none=>none
 |.qh t ok zero=>l1 args fun x=>match x with
  |.iface u v=>cond (Nat.beq u t) (some (cond ok (.cg [v,.bool true]) v)) (cond ok (some (.cg [zero,.bool false])) none)
  |.jq=>cond ok (some (.cg [zero,.bool false])) none
  |_=>none
theorem Dr(op:BinOp)(x y:AV):B1 op x y=wE op x y:=by
 cases x<;>cases y<;>rfl
theorem CL(o:pz)(args:List AV):Kn o args=pI o args:=by
 cases o
 case build z ps=>rfl
 case tF fn n=>rfl
 case EW n=>rfl
 case bin op=>rcases args with _|⟨x,_|⟨y,_|⟨z,r⟩⟩⟩<;>first|rfl|exact Dr op x y
 case mx=>cases args<;>rfl
 case mn=>cases args<;>rfl
 case slice size lo hi m=>rcases args with _|⟨x,r⟩<;>first|rfl|(cases x<;>rfl)
 case lP lo hi=>rcases args with _|⟨x,r⟩<;>first|rfl|(cases x<;>rfl)
 case lO size len lo hi m=>rcases args with _|⟨x,r⟩<;>first|rfl|(cases x<;>rfl)
 case pick=>rcases args with _|⟨x,_|⟨y,_|⟨z,_|⟨u,r⟩⟩⟩⟩<;>first|rfl|(cases x<;>rfl)
 case qh t ok zero=>rcases args with _|⟨x,_|⟨y,r⟩⟩<;>first|rfl|(cases x<;>rfl)
 all_goals (rcases args with _|⟨x,_|⟨y,_|⟨z,r⟩⟩⟩<;>first|rfl|(cases x<;>rfl)|(cases x<;>cases y<;>rfl))
end Ads
end Go.Proofs.Ytenafeojcgmnhaa
set_option linter.unusedSimpArgs false
set_option linter.unusedVariables false
namespace Go.Proofs.Ytenafeojcgmnhaa
namespace Ads
section
variable {α:Type}
def oC(n:Nat)(k:Nat→α):α:=match n with
 |0=>k 0
 |m+1=>k (Nat.succ m)
theorem uy(n:Nat)(k:Nat→α):oC n k=k n:=by cases n<;>rfl
def LZ(n:Int)(k:Int→α):α:=match n with
 |.ofNat m=>oC m fun m=>k (.ofNat m)
 |.negSucc m=>oC m fun m=>k (.negSucc m)
theorem Js(n:Int)(k:Int→α):LZ n k=k n:=by cases n<;>simp[LZ,uy]
def Gq(b:Bool)(k:Bool→α):α:=match b with
 |true=>k true
 |false=>k false
theorem Gr(b:Bool)(k:Bool→α):Gq b k=k b:=by cases b<;>rfl
def fS(v:AV)(k:AV→α):α:=match v with
 |.bool b=>Gq b fun b=>k (.bool b)
 |.int kd n=>LZ n fun n=>k (.int kd n)
 |.ptr b o=>oC b fun b=>oC o fun o=>k (.ptr b o)
 |.sl b o l c op=>oC b fun b=>oC o fun o=>oC l fun l=>oC c fun c=>Gq op fun op=>k (.sl b o l c op)
 |.map b=>oC b fun b=>k (.map b)
 |.yield b=>oC b fun b=>k (.yield b)
 |.str s=>k (.str s)
 |.de=>k .de
 |.aN=>k .aN
 |.gj a=>k (.gj a)
 |.rest b o j=>oC b fun b=>oC o fun o=>oC j fun j=>k (.rest b o j)
 |.jB=>k .jB
 |.func a b c=>k (.func a b c)
 |.jL=>k .jL
 |.iface t v=>k (.iface t v)
 |.jq=>k .jq
 |.agg cs=>k (.agg cs)
 |.cg cs=>k (.cg cs)
 |.fz f l=>k (.fz f l)
 |.fp cs o=>k (.fp cs o)
theorem KW(v:AV)(k:AV→α):fS v k=k v:=by cases v<;>simp[fS,uy,Js,Gr]
def fL:List AV→(List AV→α)→α
 |[],k=>k []
 |v::vs,k=>fS v fun v=>fL vs fun vs=>k (v::vs)
theorem DA:∀(l:List AV) (k:List AV→α),fL l k=k l
 |[],k=>rfl
 |v::vs,k=>by simp[fL,KW,DA vs]
def fB:List UInt8→(List UInt8→α)→α
 |[],k=>k []
 |v::vs,k=>fB vs fun vs=>k (v::vs)
theorem KV:∀(l:List UInt8) (k:List UInt8→α),fB l k=k l
 |[],k=>rfl
 |v::vs,k=>by simp[fB,KV vs]
def fV(v:AV)(k:AV→α):α:=match v with
 |.agg cs=>fL cs fun cs=>k (.agg cs)
 |.cg cs=>fL cs fun cs=>k (.cg cs)
 |.iface t v=>fS v fun v=>k (.iface t v)
 |.str s=>fB s fun s=>k (.str s)
 |.func f a b=>fL a fun a=>fL b fun b=>k (.func f a b)
 |v=>fS v k
theorem xE(v:AV)(k:AV→α):fV v k=k v:=by cases v<;>simp[fV,KW,DA,KV]
def wZ{β:Type}(x:Option β):Nat→Tr β→Nat→(Tr β→α)→α
 |0,t,_,k=>k t
 |f+1,.nil,n,k=>cond (Nat.beq n 0) (k (.node .nil x .nil))
   (cond (Nat.beq (n%2) 1) (wZ x f .nil (n/2) fun l=>k (.node l none .nil)) (wZ x f .nil (n/2-1) fun r=>k (.node .nil none r)))
 |f+1,.node l v r,n,k=>cond (Nat.beq n 0) (k (.node l x r))
   (cond (Nat.beq (n%2) 1) (wZ x f l (n/2) fun l=>k (.node l v r)) (wZ x f r (n/2-1) fun r=>k (.node l v r)))
theorem sx{β:Type}(x:Option β):∀(f:Nat) (t:Tr β) (n:Nat) (k:Tr β→α),wZ x f t n k=k (Tr.put x f t n)
 |0,t,n,k=>rfl
 |f+1,.nil,n,k=>by
  simp only[wZ,Tr.put];cases Nat.beq n 0
  ·cases Nat.beq (n%2) 1<;>simp[sx x f,Tr.left,Tr.right,Tr.val]
  ·rfl
 |f+1,.node l v r,n,k=>by
  simp only[wZ,Tr.put];cases Nat.beq n 0
  ·cases Nat.beq (n%2) 1<;>simp[sx x f,Tr.left,Tr.right,Tr.val]
  ·rfl
end
def Dq{α:Type}:List AV→Nat→Env→(Env→α)→α
 |[],_,e,k=>k e
 |v::vs,i,e,k=>wZ (some v) (i+1) e i fun e=>Dq vs (i+1) e k
theorem Aj{α:Type}:∀(l:List AV) (i:Nat) (e:Env) (k:Env→α),Dq l i e k=k (Env.args l i e)
 |[],i,e,k=>rfl
 |v::vs,i,e,k=>by simp[Dq,sx,Aj vs,Env.args,Tr.set]
def q7{α:Type}(n:Nat)(args:List AV)(k:Env→α):α:=Dq args 0 (Tr.full (Nat.log2 n+1)) k
theorem m8{α:Type}(n:Nat)(args:List AV)(k:Env→α):q7 n args k=k (Env.start n args):=Aj _ _ _ _
def fC{α:Type}(v:AV)(k:AV→α):α:=match v with
 |.bool b=>k (.bool b)
 |.int kd n=>k (.int kd n)
 |.ptr b o=>k (.ptr b o)
 |.sl b o l c op=>k (.sl b o l c op)
 |.map b=>k (.map b)
 |.yield b=>k (.yield b)
 |.str s=>k (.str s)
 |.de=>k .de
 |.aN=>k .aN
 |.gj a=>k (.gj a)
 |.rest b o j=>k (.rest b o j)
 |.jB=>k .jB
 |.func a b c=>k (.func a b c)
 |.jL=>k .jL
 |.iface t v=>k (.iface t v)
 |.jq=>k .jq
 |.agg cs=>k (.agg cs)
 |.cg cs=>k (.cg cs)
 |.fz f l=>k (.fz f l)
 |.fp cs o=>k (.fp cs o)
theorem AD{α:Type}(v:AV)(k:AV→α):fC v k=k v:=by cases v<;>rfl
def BC{α β:Type}(t:Tr β)(n:Nat)(x:β)(k:Tr β→α):α:=wZ (some x) (n+1) t n k
theorem sJ{α β:Type}(t:Tr β)(n:Nat)(x:β)(k:Tr β→α):BC t n x k=k (t.set n x):=sx _ _ _ _ _
def jl{α:Type}(e:Env)(d:Option Nat)(v:AV)(k:Env→α):α:=match d with
 |some d=>BC e d v k
 |none=>k e
theorem jT{α:Type}(e:Env)(d:Option Nat)(v:AV)(k:Env→α):jl e d v k=k (e.put d v):=by
 cases d<;>simp[jl,Env.put,sJ]
def newF{α:Type}(h:Heap)(x:cw)(k:Heap→α):α:=
 match x with
 |.cells vs wr es=>fL vs fun vs=>BC h.m h.next (.cells vs wr es) fun m=>oC (h.next+1) fun n=>k ⟨n,m⟩
 |x=>BC h.m h.next x fun m=>oC (h.next+1) fun n=>k ⟨n,m⟩
theorem pT{α:Type}(h:Heap)(x:cw)(k:Heap→α):newF h x k=k (h.new x):=by
 cases x<;>simp[newF,DA,sJ,uy,Heap.new]
def lB{α:Type}(h:Heap)(b:Nat)(x:cw)(k:Heap→α):α:=
 match x with
 |.cells vs wr es=>fL vs fun vs=>BC h.m b (.cells vs wr es) fun m=>k ⟨h.next,m⟩
 |x=>BC h.m b x fun m=>k ⟨h.next,m⟩
theorem jY{α:Type}(h:Heap)(b:Nat)(x:cw)(k:Heap→α):lB h b x k=k (h.set b x):=by
 cases x<;>simp[lB,DA,sJ,Heap.set]
def Jb{α:Type}(h:Heap)(b:Nat)(k:Heap→α):α:=wZ none (b+1) h.m b fun m=>k ⟨h.next,m⟩
theorem Dx{α:Type}(h:Heap)(b:Nat)(k:Heap→α):Jb h b k=k (h.del b):=by
 simp[Jb,sx,Heap.del,Tr.del]
def q8(h:Heap)(b o:Nat)(xs:List AV)(k:Heap→Bool):Bool:=
 match h.get b with
 |some (.cells vs true es)=>cond (Nat.ble (o+xs.length) vs.length&&bE xs) (lB h b (.cells (Heap.splice vs o xs) true es) k) false
 |_=>false
theorem qe(h:Heap)(b o:Nat)(xs:List AV)(k:Heap→Bool):q8 h b o xs k=match h.cW b o xs with|some h=>k h|none=>false:=by
 unfold q8 Heap.cW;cases hg:h.get b with
 |none=>rfl
 |some x=>
  cases x with
  |cells vs wr es=>
   cases wr with
   |true=>simp only[];cases(Nat.ble (o+xs.length) vs.length&&bE xs)<;>simp[jY]
   |false=>rfl
  |_=>rfl
def O6(o:wD)(args:List AV)(h:Heap)(k:AV→Heap→Bool):Bool:=
 match o,args with
 |.store n,[.ptr b o,v]=>cond (Nat.beq v.cells.length n) (q8 h b o v.cells fun h=>k .undef h) false
 |.append size bytes,[s,x]=>match aP size h x with
  |none=>false
  |some (n,new)=>cond (bE new) (match s with
   |.aN=>cond (Nat.beq n 0) (k .aN h)
     (cond (Nat.ble (n*bytes) 140737488355328&&Nat.ble n 9223372036854775807) (newF h (.cells new true size) fun h1=>k (.sl h.next 0 n n true) h1) false)
   |.sl b o len cap jC=>cond (Nat.beq n 0&&Nat.ble len cap) (k (.sl b o len cap jC) h) (cond (Nat.ble (len+n) cap)
     (q8 h b (o+len*size) new fun h=>k (.sl b o (len+n) cap jC) h)
     (cond (Nat.ble ((len+n)*bytes) 140737488355328&&Nat.ble (len+n) 9223372036854775807)
      (match h.get b,h.aO b o (len*size) with
      |some (.cells vs wr es),some old=>cond jC
        (cond (wr&&Nat.beq vs.length (o+len*size)&&Nat.beq cap len&&Nat.beq es size)
         (Jb h b fun h2=>newF h2 (.cells (old++new) true size) fun h1=>k (.sl h.next 0 (len+n) (len+n) true) h1) false)
        (newF h (.cells (old++new) true size) fun h1=>k (.sl h.next 0 (len+n) (len+n) true) h1)
      |_,_=>false) false))
   |_=>false) false
 |.copy size,[d,x]=>match d,aP size h x with
  |.aN,some _=>k (.int .i64 0) h
  |.sl b o len _ _,some (n,new)=>q8 h b o (new.take (min n len*size)) fun h=>k (.int .i64 (min n len)) h
  |_,_=>false
 |.clear zs,[d]=>match d with
  |.aN=>k .undef h
  |.sl b o len _ _=>q8 h b o (dJ zs len) fun h=>k .undef h
  |_=>false
 |.ins,[.map b,kv,v]=>match h.get b with
  |some (.map es bs c)=>match findKey kv es with
   |some r=>lB h b (.map (putKey kv v es) (nZ r bs c) (uT r c)) fun h=>k .undef h
   |none=>false
  |_=>false
 |.range,[.map b]=>match h.get b with
  |some (.map _ _ c)=>newF h (.iter b c [] c) fun h1=>k (.ptr h.next 0) h1
  |_=>false
 |.next,[.ptr it 0]=>match h.get it with
  |some (.iter m _ seen last)=>match h.get m with
   |some (.map _ bs _)=>cond (oH seen last bs&&(n6 seen bs).isEmpty) (Jb h it fun h1=>k (.cg [.bool false]) h1) false
   |_=>false
  |_=>false
 |.HD,[.map b,kv]=>match h.get b with
  |some (.map es bs c)=>match findKey kv es with
   |some _=>lB h b (.map (delKey kv es) (l9 kv es bs) c) fun h=>k (.cg []) h
   |none=>false
  |_=>false
 |_,_=>false
theorem EE{o:wD}{args:List AV}{h:Heap}{k:AV→Heap→Bool}(hh:O6 o args h k=true):∃v h1,eI o args h=some (v,h1)∧k v h1=true:=by
 unfold O6 at hh;split at hh
 ·rename_i n b o v;simp only[eI];cases hb:Nat.beq v.cells.length n with
  |false=>simp[hb] at hh
  |true=>
   simp only[hb,cond_true,qe] at hh⊢;cases hs:h.cW b o v.cells with
   |none=>simp[hs] at hh
   |some h1=>rw[hs] at hh;exact⟨.undef,h1,rfl,hh⟩
 ·rename_i size bytes s x;simp only[eI];cases hsc:aP size h x with
  |none=>simp[hsc] at hh
  |some p=>
   obtain⟨n,new⟩:=p;simp only[hsc] at hh⊢;cases hf:bE new with
   |false=>simp[hf] at hh
   |true=>
    simp only[hf,cond_true] at hh⊢;split at hh
    ·cases h0:Nat.beq n 0 with
     |true=>rw[h0] at hh;exact⟨_,_,rfl,hh⟩
     |false=>
      rw[h0] at hh;simp only[cond_false,pT] at hh⊢;cases hc:(Nat.ble (n*bytes) 140737488355328&&Nat.ble n 9223372036854775807) with
      |false=>simp[hc] at hh
      |true=>rw[hc] at hh;exact⟨_,_,rfl,hh⟩
    ·rename_i b o len cap jC;cases wS:(Nat.beq n 0&&Nat.ble len cap) with
     |true=>simp only[wS,cond_true] at hh⊢;exact⟨_,_,rfl,hh⟩
     |false=>
     simp only[wS,cond_false] at hh⊢;cases hle:Nat.ble (len+n) cap with
     |true=>
      simp only[hle,cond_true,qe] at hh⊢;cases hs:h.cW b (o+len*size) new with
      |none=>simp[hs] at hh
      |some h1=>rw[hs] at hh;exact⟨_,_,rfl,hh⟩
     |false=>
      simp only[hle,cond_false] at hh⊢;cases hc:(Nat.ble ((len+n)*bytes) 140737488355328&&Nat.ble (len+n) 9223372036854775807) with
      |false=>simp[hc] at hh
      |true=>
       simp only[hc,cond_true] at hh⊢;split at hh
       ·rename_i vs wr es old hg hl;rw[hg,hl];simp only;cases jC with
        |false=>simp only[cond_false,pT] at hh⊢;exact⟨_,_,rfl,hh⟩
        |true=>
         simp only[cond_true] at hh⊢;cases hw:(wr&&Nat.beq vs.length (o+len*size)&&Nat.beq cap len&&Nat.beq es size) with
         |false=>simp[hw] at hh
         |true=>
          simp only[hw,cond_true,Dx,pT] at hh⊢;exact⟨_,_,rfl,hh⟩
       ·simp at hh
    ·simp at hh
 ·rename_i size d x;simp only[eI];split at hh
  ·rename_i q hq;rw[hq];exact⟨_,_,rfl,hh⟩
  ·rename_i b o len cap jC n new hq;rw[hq];simp only[qe] at hh⊢;cases hs:h.cW b o (new.take (min n len*size)) with
   |none=>simp[hs] at hh
   |some h1=>rw[hs] at hh;exact⟨_,_,rfl,hh⟩
  ·simp at hh
 ·rename_i zs d;simp only[eI];split at hh
  ·exact⟨_,_,rfl,hh⟩
  ·rename_i b o len cap jC;simp only[qe] at hh⊢;cases hs:h.cW b o (dJ zs len) with
   |none=>simp[hs] at hh
   |some h1=>rw[hs] at hh;exact⟨_,_,rfl,hh⟩
  ·simp at hh
 ·rename_i b kv v;simp only[eI];split at hh
  ·rename_i es bs c hg;rw[hg];split at hh
   ·rename_i r hr;simp only[hr,jY] at hh⊢;exact⟨_,_,rfl,hh⟩
   ·simp at hh
  ·simp at hh
 ·rename_i b;simp only[eI];split at hh
  ·rename_i es bs c hg;rw[hg];simp only[pT] at hh⊢;exact⟨_,_,rfl,hh⟩
  ·simp at hh
 ·rename_i it;simp only[eI];split at hh
  ·rename_i m since seen last hg;rw[hg];simp only;split at hh
   ·rename_i es bs c hm;rw[hm];simp only;cases hc:(oH seen last bs&&(n6 seen bs).isEmpty) with
    |false=>simp[hc] at hh
    |true=>
     simp only[hc,cond_true,Dx] at hh⊢;exact⟨_,_,rfl,hh⟩
   ·simp at hh
  ·simp at hh
 ·rename_i b kv;simp only[eI];split at hh
  ·rename_i es bs c hg;rw[hg];split at hh
   ·rename_i r hr;simp only[hr,jY] at hh⊢;exact⟨_,_,rfl,hh⟩
   ·simp at hh
  ·simp at hh
 ·simp at hh
end Ads
end Go.Proofs.Ytenafeojcgmnhaa
set_option linter.unusedSimpArgs false
set_option linter.unusedVariables false
namespace Go.Proofs.Ytenafeojcgmnhaa
namespace Ads
theorem s7{α:Type}{c:Bool}{x:α}{y:α}(h:cond c (some x) none=some y):x=y:=by
 cases c with
 |false=>simp at h
 |true=>simpa using h
def LK(h h':Heap):Prop:=h.next≤h'.next∧∀L st cu e ps a b,L<h.next→h.get L=some (.loop st cu e ps a b)→∃st' kE,h'.get L=some (.loop st' kE e ps a b)
theorem LK.refl(h:Heap):LK h h:=⟨Nat.le_refl _,fun L st cu e ps a b _ hg=>⟨st,cu,hg⟩⟩
theorem LK.trans{h h1 h2:Heap}(x:LK h h1)(y:LK h1 h2):LK h h2:=by
 refine⟨Nat.le_trans x.1 y.1,fun L st cu e ps a b hL hg=>?_⟩;obtain⟨st',kE,hg'⟩:=x.2 L st cu e ps a b hL hg;exact y.2 L st' kE e ps a b (Nat.lt_of_lt_of_le hL x.1) hg'
theorem LK.new(h:Heap)(x:cw):LK h (h.new x):=
 ⟨by simp,fun L st cu e ps a b hL hg=>⟨st,cu,by rw[Heap.bU,if_neg (by omega)];exact hg⟩⟩
theorem LK.set{h:Heap}{b:Nat}{x y:cw}(hb:h.get b=some x)(hx:∀st cu e ps a c,x≠.loop st cu e ps a c):LK h (h.set b y):=by
 refine⟨Nat.le_refl _,fun L st cu e ps a c hL hg=>⟨st,cu,?_⟩⟩;rw[Heap.bt,if_neg]
 ·exact hg
 ·rintro rfl;rw[hb] at hg;cases hg
  exact hx _ _ _ _ _ _ rfl
theorem LK.del{h:Heap}{b:Nat}{x:cw}(hb:h.get b=some x)(hx:∀st cu e ps a c,x≠.loop st cu e ps a c):LK h (h.del b):=by
 refine⟨Nat.le_refl _,fun L st cu e ps a c hL hg=>⟨st,cu,?_⟩⟩;rw[Heap.cL,if_neg]
 ·exact hg
 ·rintro rfl;rw[hb] at hg;cases hg
  exact hx _ _ _ _ _ _ rfl
theorem LK.store{h h':Heap}{b o:Nat}{xs:List AV}(hs:h.cW b o xs=some h'):LK h h':=by
 unfold Heap.cW at hs;split at hs
 ·rename_i vs es hg;cases hc:(Nat.ble (o+xs.length) vs.length&&bE xs) with
  |false=>simp[hc] at hs
  |true=>
   simp only[hc,cond_true,Option.some.injEq] at hs;subst hs;exact LK.set hg (by simp)
 ·simp at hs
theorem LK.eff{o:wD}{args:List AV}{h h':Heap}{v:AV}(he:eI o args h=some (v,h')):LK h h':=by
 unfold eI at he;split at he
 ·rename_i n b o v;cases hb:Nat.beq v.cells.length n with
  |false=>simp[hb] at he
  |true=>
   simp only[hb,cond_true,Option.map_eq_some_iff,Prod.mk.injEq] at he;obtain⟨h1,hs,_,rfl⟩:=he;exact LK.store hs
 ·rename_i size bytes s x;split at he
  ·simp at he
  ·rename_i n new hsc;cases hf:bE new with
   |false=>simp[hf] at he
   |true=>
    simp only[hf,cond_true] at he;split at he
    ·cases h0:Nat.beq n 0 with
     |true=>
      simp only[h0,cond_true,Option.some.injEq,Prod.mk.injEq] at he;obtain⟨_,rfl⟩:=he;exact LK.refl _
     |false=>
      simp only[h0,cond_false] at he;cases hc:(Nat.ble (n*bytes) 140737488355328&&Nat.ble n 9223372036854775807) with
      |false=>simp[hc] at he
      |true=>
       simp only[hc,cond_true,Option.some.injEq,Prod.mk.injEq] at he;obtain⟨_,rfl⟩:=he;exact LK.new _ _
    ·rename_i b o len cap jC;cases wS:(Nat.beq n 0&&Nat.ble len cap) with
     |true=>
      simp only[wS,cond_true,Option.some.injEq,Prod.mk.injEq] at he;obtain⟨_,rfl⟩:=he;exact LK.refl _
     |false=>
     simp only[wS,cond_false] at he;cases hle:Nat.ble (len+n) cap with
     |true=>
      simp only[hle,cond_true,Option.map_eq_some_iff,Prod.mk.injEq] at he;obtain⟨h1,hs,_,rfl⟩:=he;exact LK.store hs
     |false=>
      simp only[hle,cond_false] at he;cases hc:(Nat.ble ((len+n)*bytes) 140737488355328&&Nat.ble (len+n) 9223372036854775807) with
      |false=>simp[hc] at he
      |true=>
       simp only[hc,cond_true] at he;split at he
       ·rename_i vs wr es old hg hl;cases jC with
        |false=>
         simp only[cond_false,Option.some.injEq,Prod.mk.injEq] at he;obtain⟨_,rfl⟩:=he;exact LK.new _ _
        |true=>
         simp only[cond_true] at he;cases hw:(wr&&Nat.beq vs.length (o+len*size)&&Nat.beq cap len&&Nat.beq es size) with
         |false=>simp[hw] at he
         |true=>
          simp only[hw,cond_true,Option.some.injEq,Prod.mk.injEq] at he;obtain⟨_,rfl⟩:=he;exact(LK.del hg (by simp)).trans (LK.new _ _)
       ·simp at he
    ·cases h0:Nat.beq n 0 with
     |true=>
      simp only[h0,cond_true,Option.some.injEq,Prod.mk.injEq] at he;obtain⟨_,rfl⟩:=he;exact LK.refl _
     |false=>
      simp only[h0,cond_false] at he;cases hc:(Nat.ble (n*bytes) 140737488355328&&Nat.ble n 9223372036854775807) with
      |false=>simp[hc] at he
      |true=>
       simp only[hc,cond_true,Option.some.injEq,Prod.mk.injEq] at he;obtain⟨_,rfl⟩:=he;exact LK.new _ _
    ·simp at he
 ·rename_i size d x;split at he
  ·simp only[Option.some.injEq,Prod.mk.injEq] at he;obtain⟨_,rfl⟩:=he;exact LK.refl _
  ·simp only[Option.some.injEq,Prod.mk.injEq] at he;obtain⟨_,rfl⟩:=he;exact LK.refl _
  ·simp only[Option.map_eq_some_iff,Prod.mk.injEq] at he;obtain⟨h1,hs,_,rfl⟩:=he;exact LK.store hs
  ·simp at he
 ·rename_i iJ d;split at he
  ·simp only[Option.some.injEq,Prod.mk.injEq] at he;obtain⟨_,rfl⟩:=he;exact LK.refl _
  ·simp only[Option.map_eq_some_iff,Prod.mk.injEq] at he;obtain⟨h1,hs,_,rfl⟩:=he;exact LK.store hs
  ·simp at he
 ·split at he
  ·rename_i hg;split at he
   ·simp only[Option.some.injEq,Prod.mk.injEq] at he;obtain⟨_,rfl⟩:=he;exact LK.set hg (by simp)
   ·simp at he
  ·simp at he
 ·split at he
  ·simp only[Option.some.injEq,Prod.mk.injEq] at he;obtain⟨_,rfl⟩:=he;exact LK.new _ _
  ·simp at he
 ·split at he
  ·rename_i hg;split at he
   ·obtain⟨_,rfl⟩:=Prod.mk.inj (s7 he);exact LK.del hg (by simp)
   ·simp at he
  ·simp at he
 ·split at he
  ·rename_i hg;split at he
   ·simp only[Option.some.injEq,Prod.mk.injEq] at he;obtain⟨_,rfl⟩:=he;exact LK.set hg (by simp)
   ·simp at he
  ·simp at he
 ·simp only[Option.some.injEq,Prod.mk.injEq] at he;obtain⟨_,rfl⟩:=he;exact LK.new _ _
 ·simp at he
def Task.heap:Task→Heap
 |.code _ _ _ h=>h
 |.ops _ _ _ h=>h
 |.op _ _ _ h=>h
 |.cH _ _ h=>h
 |.call _ _ h=>h
 |.any _ _ _ h=>h
def jb.heap:jb→Heap
 |.post _=>⟨0,.nil⟩
 |.code _ _ h=>h
 |.ops _ _ h=>h
 |.val _ h=>h
 |.jD _ h=>h
theorem LK.Tq{o:wD}{args:List AV}{h h':Heap}{v:AV}(he:eK o args h=some (v,h')):LK h h':=by
 unfold eK at he;split at he
 ·split at he
  ·simp at he
  ·split at he
   ·rename_i hg _;have he:=s7 he;cases he
    exact(LK.set hg (by simp)).trans (LK.new _ _)
   ·simp at he
 ·simp at he
theorem LK.dS{h g g':Heap}(x:LK g g')(s:mK g h):LK h (mX h g g'):=by
 refine⟨by rw[←s.1];exact x.1,fun L st cu e ps a b hL hg=>?_⟩;have cn:(mX h g g').get L=if(g.get L).isSome=true∨h.next≤L then g'.get L else h.get L:=by
  show(sw h g g' g'.next).get L=_;rw[kU];have:L<g'.next:=by have:=x.1;have:=s.1;omega
  simp only[this,true_and]
 rw[cn];split
 ·rename_i hc;rcases hc with hc|hc
  ·cases hy:g.get L with
   |none=>rw[hy] at hc;simp at hc
   |some y=>
    have:=s.2 L y hy;rw[hg] at this;cases this
    exact x.2 L st cu e ps a b (by rw[s.1];exact hL) hy
  ·omega
 ·exact⟨st,cu,hg⟩
theorem LK.Q3{h g u h2:Heap}(x:LK g u)(s:mK g h)(hn:h2.next=u.next)(h1:∀b,b<h.next→h2.get b=if(g.get b).isSome=true then u.get b else h.get b):LK h h2:=by
 refine⟨by rw[hn,←s.1];exact x.1,fun L st cu e ps a b hL hg=>?_⟩;rw[h1 L hL];split
 ·rename_i hc;cases hy:g.get L with
  |none=>rw[hy] at hc;simp at hc
  |some y=>
   have:=s.2 L y hy;rw[hg] at this;cases this
   exact x.2 L st cu e ps a b (by rw[s.1];exact hL) hy
 ·exact⟨st,cu,hg⟩
theorem LK.forget{h H h2:Heap}(x:LK h H)(s:mK h2 H)(ho:∀b,b<h.next→h.get b≠none→h2.get b=H.get b):LK h h2:=
 ⟨by rw[s.1];exact x.1,fun L st cu e ps a b hL hg=>by rw[ho L hL (by rw[hg];simp)];exact x.2 L st cu e ps a b hL hg⟩
def BX(t:Task)(r:jb):Prop:=match r with
 |.post Q=>∃x e h',Q x e h'∧LK t.heap h'
 |r=>LK t.heap r.heap
theorem BX.of{t t':Task}{r:jb}(x:LK t.heap t'.heap)(k:BX t' r):BX t r:=by
 cases r with
 |post Q=>obtain⟨a,b,c,q,l⟩:=k;exact⟨a,b,c,q,x.trans l⟩
 |_=>exact LK.trans x k
theorem qU{h:Heap}{it m since c:Nat}{seen:List Nat}{p:AV×Heap}:∀{bs:List Nat} {es:List (AV×AV)},p∈sq h it m since seen c bs es→∃x,p.2=h.set it x
 |[],es,hp=>by simp[sq] at hp
 |b::bs,[],hp=>by simp[sq] at hp
 |b::bs,(k,v)::es,hp=>by
  simp only[sq] at hp;cases hb:tv b seen with
  |true=>rw[hb] at hp;exact qU hp
  |false=>
   rw[hb] at hp;rcases List.mem_cons.1 hp with rfl|hp
   ·exact⟨_,rfl⟩
   ·exact qU hp
theorem LK.qC{args:List AV}{h:Heap}{cs:List (AV×Heap)}{p:AV×Heap}(hc:qC args h=some cs)(hp:p∈cs):LK h p.2:=by
 unfold Ads.qC at hc;split at hc
 ·split at hc
  ·rename_i hg;split at hc
   ·have:=s7 hc;subst this;obtain⟨x,hx⟩:=qU hp;rw[hx];exact LK.set hg (by simp)
   ·simp at hc
  ·simp at hc
 ·simp at hc
theorem BS.QL{fs:Nat→Option aC}{ms:Nat→String→Option Nat}{t:Task}{r:jb}(h:BS fs ms t r):BX t r:=by
 induction h with
 |skip=>exact LK.refl _
 |ops _ ih=>exact ih
 |bN _ _ ih=>exact ih
 |w7 _ _ ih1 ih2=>exact BX.of (t':=.code _ _ _ _) ih1 ih2
 |n9 _ _ ih=>exact ih
 |cond _ _ ih=>exact BX.of (LK.refl _) ih
 |nv _ ih=>exact ih
 |fR _ _ ih=>exact ih
 |lI _ _ ih1 ih2=>exact BX.of (t':=.code _ _ _ _) ih1 ih2
 |cQ _ _ ih=>exact ih
 |exit=>exact LK.refl _
 |ret=>exact LK.refl _
 |@rangeFunc g ps a b e h f first aX v h2 st x hg hc hl hst hx ih=>
  have h1:=(LK.new h (.loop 0 none e ps a b)).trans ih;refine⟨h1.1,fun L st cu e ps a b hL hgl=>?_⟩;obtain⟨st',kE,hg'⟩:=h1.2 L st cu e ps a b hL hgl;have hL':L<h.next:=hL;exact⟨st',kE,by simp only[jb.heap];rw[Heap.bt,if_neg (by omega)];exact hg'⟩
 |nil=>exact LK.refl _
 |off _ _ ih=>exact ih
 |on _ _ _ ih1 ih2=>exact ih1.trans ih2
 |BV _=>exact LK.refl _
 |Kk _=>exact LK.new _ _
 |D1 _=>exact LK.refl _
 |IU h=>exact LK.eff h
 |Q0 h=>exact LK.Tq h
 |lJ _ ih=>exact ih
 |j7 _ _ ih=>exact ih
 |cH _ ih=>exact ih
 |@yield L args h cu e ps a b e2 h2 cm x e4 h4 It oN hg hlen wQ ni BT hx Oe ih1 ih2=>
  show LK h (h4.set L _);replace ih1:LK h h2:=ih1;replace ih2:LK (h2.set L (.loop 1 cm e ps a b)) h4:=ih2;refine⟨Nat.le_trans ih1.1 ih2.1,fun L0 Vk HV e0 Rh a0 b0 GA K7=>?_⟩;by_cases hl:L0=L
  ·subst hl;rw[hg] at K7;cases K7
   exact⟨_,_,by rw[Heap.bt,if_pos rfl]⟩
  ·obtain⟨s1,p1,g1⟩:=ih1.2 L0 Vk HV e0 Rh a0 b0 GA K7;obtain⟨s2,p2,g2⟩:=ih2.2 L0 s1 p1 e0 Rh a0 b0 (Nat.lt_of_lt_of_le GA ih1.1) (by rw[Heap.bt,if_neg hl];exact g1);exact⟨s2,p2,by rw[Heap.bt,if_neg hl];exact g2⟩
 |call _ _ _ _ _ ih=>exact ih
 |fresh _ _ _ _=>exact LK.refl _
 |Cj hs _ hn h1 _ ih=>exact ih.Q3 hs hn h1
 |forget hs ho _ ih=>exact ih.forget hs ho
 |jM _ _ ih=>exact(LK.new _ _).trans ih
 |@pe L args h cu e ps a id A l1 i l2 e2 h2 cm e3 h3 tr e4 h4 v h5 hg hlen wQ sS ni DK hsA hl hw ho ih1 Hg ihl tY=>
  replace ih1:LK h h2:=ih1;have UP:LK (h2.set L (.loop 1 cm e ps a (.block id (.seq A (.ops (l1++i::l2)))))) h5:=LK.trans Hg (LK.trans ihl tY);refine⟨Nat.le_trans ih1.1 UP.1,fun L0 Vk HV e0 Rh a0 b0 GA K7=>?_⟩;obtain⟨s1,p1,g1⟩:=ih1.2 L0 Vk HV e0 Rh a0 b0 GA K7;have hlt:L0<h2.next:=Nat.lt_of_lt_of_le GA ih1.1;by_cases hl:L0=L
  ·subst hl;rw[ni] at g1;cases g1
   exact UP.2 L0 _ _ _ _ _ _ hlt (by rw[Heap.bt,if_pos rfl])
  ·exact UP.2 L0 s1 p1 e0 Rh a0 b0 hlt (by rw[Heap.bt,if_neg hl];exact g1)
 |E7 _ _ _ ih1 ih2=>exact ih1.trans ih2
 |xA _ _ _ _ _ _ ih1 ih2=>exact ih1.trans ih2
 |pW=>exact LK.refl _
 |nE _ ih=>exact ih
 |kT _ _ ih=>exact ih
 |om _ ih=>exact ih
 |uQ _ _ _ ih=>exact ih
 |tP _ _ _ _ _ _ _ _ _ _ _ _ _ _ _ _ _ _ _ Hg ih1 ih2 _ ih3=>exact((Hg.trans ih1).trans ih2).trans ih3
 |FP _ hq ih=>exact⟨_,_,_,hq,ih⟩
 |@FQ rd a b e h R Q _ hx _ qS nj=>
  obtain⟨x,e1,h1,hr,l⟩:=qS;cases hn:x.bI with
  |false=>exact⟨x,e1,h1,hx _ _ _ hr hn,l⟩
  |true=>
   have:x=.normal:=by cases x<;>simp[AX.bI] at hn;rfl
   subst this;obtain⟨x2,e2,h2,hq,l2⟩:=nj e1 h1 hr;exact⟨x2,e2,h2,hq,LK.trans l l2⟩
 |Dm _ _ ih=>exact ih
 |Ag _ hx ih=>
  obtain⟨x,e1,h1,hr,l⟩:=ih;exact⟨_,e1,h1,hx _ _ _ hr,l⟩
 |@Dn rd c e h R Q _ hx _ qS nj=>
  obtain⟨x,e1,h1,hr,l⟩:=qS;cases hn:x.bI with
  |false=>exact⟨x,e1,h1,hx _ _ _ hr hn,l⟩
  |true=>
   have:x=.normal:=by cases x<;>simp[AX.bI] at hn;rfl
   subst this;obtain⟨x2,e2,h2,hq,l2⟩:=nj e1 h1 hr;exact⟨x2,e2,h2,hq,LK.trans l l2⟩
 |@Dp rd dst args l e h cs Q T E H hc hne hl hq ihl=>
  cases cs with
  |nil=>exact absurd rfl hne
  |cons p cs=>exact⟨_,_,_,hq p List.mem_cons_self,LK.trans (LK.qC hc List.mem_cons_self) (ihl p List.mem_cons_self)⟩
 |yC _ _ _ hQ ih=>
  obtain⟨x,e1,h1,hq,l⟩:=ih;obtain⟨_,_,s,ho⟩:=hQ x e1 h1 hq;exact LK.forget l s ho
theorem BS.keep{fs:Nat→Option aC}{ms:Nat→String→Option Nat}{t:Task}{r:jb}(h:BS fs ms t r)(hr:∀Q,r≠.post Q:=by simp):LK t.heap r.heap:=by
 have:=h.QL;cases r with
 |post Q=>exact absurd rfl (hr Q)
 |_=>exact this
theorem BS.As{fs:Nat→Option aC}{ms:Nat→String→Option Nat}{f:Nat}{args:List AV}{h:Heap}{r:jb}(hb:BS fs ms (.call f args h) r):(∃v h1,r=.val v h1)∨∃v h1,r=.jD v h1:=by
 cases hb with
 |call _ _ _ _ _=>exact .inl ⟨_,_,rfl⟩
 |fresh _ _ _=>exact .inl ⟨_,_,rfl⟩
 |Cj _ _ _ _ _=>exact .inl ⟨_,_,rfl⟩
 |forget _ _ _=>exact .inl ⟨_,_,rfl⟩
 |uQ _ _ _=>exact .inr ⟨_,_,rfl⟩
 |yC _ _ _ _=>exact .inl ⟨_,_,rfl⟩
 |tP _ _ _ _ _ _ _ _ _ _ _ _ _ _ _ _ _ _ _=>exact .inl ⟨_,_,rfl⟩
end Ads
end Go.Proofs.Ytenafeojcgmnhaa
set_option linter.unusedSimpArgs false
set_option linter.unusedVariables false
namespace Go.Proofs.Ytenafeojcgmnhaa
namespace Ads
mutual
def AV.same:AV→AV→Bool
 |.bool a,.bool b=>a==b
 |.int k n,.int k' m=>cond (decide (k=k')) (decide (n=m)) false
 |.str s,.str t=>s==t
 |.ptr b o,.ptr b' o'=>Nat.beq b b'&&Nat.beq o o'
 |.de,.de=>true
 |.sl b o l c op,.sl b' o' l' c' op'=>Nat.beq b b'&&Nat.beq o o'&&Nat.beq l l'&&Nat.beq c c'&&op==op'
 |.aN,.aN=>true
 |.map b,.map b'=>Nat.beq b b'
 |.jB,.jB=>true
 |.func f a c,.func f' a' c'=>decide (f=f')&&vV a a'&&vV c c'
 |.jL,.jL=>true
 |.yield b,.yield b'=>Nat.beq b b'
 |.iface t v,.iface t' v'=>Nat.beq t t'&&v.same v'
 |.jq,.jq=>true
 |.agg cs,.agg cs'=>vV cs cs'
 |.cg cs,.cg cs'=>vV cs cs'
 |.rest b o k,.rest b' o' k'=>Nat.beq b b'&&Nat.beq o o'&&Nat.beq k k'
 |_,_=>false
def vV:List AV→List AV→Bool
 |[],[]=>true
 |v::vs,u::us=>v.same u&&vV vs us
 |_,_=>false
end
mutual
theorem AV.zD:∀{v u:AV},v.same u=true→v=u:=by
 intro v u h;cases v<;>cases u<;>simp only[AV.same,Bool.and_eq_true,beq_iff_eq,Bool.false_eq_true,decide_eq_true_eq] at h<;>
  first
  |rfl
  |(obtain rfl:=h;rfl)
  |(have:=Nat.eq_of_beq_eq_true h;subst this;rfl)
  |(have h1:=Nat.eq_of_beq_eq_true h.1;have h2:=Nat.eq_of_beq_eq_true h.2;subst h1 h2;rfl)
  |(obtain⟨⟨⟨⟨h1,h2⟩,h3⟩,h4⟩,h5⟩:=h;have:=Nat.eq_of_beq_eq_true h1;have:=Nat.eq_of_beq_eq_true h2;have:=Nat.eq_of_beq_eq_true h3;have:=Nat.eq_of_beq_eq_true h4;subst_vars;rfl)
  |(obtain⟨⟨h1,h2⟩,h3⟩:=h;have:=Nat.eq_of_beq_eq_true h1;have:=Nat.eq_of_beq_eq_true h2;have:=Nat.eq_of_beq_eq_true h3;subst_vars;rfl)
  |(rename_i k n k' m;by_cases hk:k=k'<;>simp[hk] at h;subst hk h;rfl)
  |(rw[sH h])
  |(obtain⟨⟨h1,h2⟩,h3⟩:=h;rw[h1,sH h2,sH h3])
  |(obtain⟨h1,h2⟩:=h;rw[Nat.eq_of_beq_eq_true h1,AV.zD h2])
theorem sH:∀{v u:List AV},vV v u=true→v=u:=by
 intro v u h;cases v<;>cases u<;>simp only[vV,Bool.and_eq_true,Bool.false_eq_true] at h
 ·rfl
 ·rw[AV.zD h.1,sH h.2]
end
def oS(u:Nat→Heap):List bq→List (List Nat)→List aK→Bool
 |x::l,cs::win,m::tr=>cond (match x.op with
   |.r o=>cond m.on (cs.all fun c=>match rI o m.vals (u c) with|some v=>v.same m.v|none=>false) true
   |_=>true) (oS u l win tr) false
 |_,_,_=>true
theorem nL{u:Nat→Heap}:∀{l:List bq} {win:List (List Nat)} {tr:List aK},oS u l win tr=true→cq u l win tr
 |[],_,_,_=>by simp[cq]
 |_::_,[],_,_=>by simp[cq]
 |_::_,_::_,[],_=>by simp[cq]
 |x::l,cs::win,m::tr,h=>by
  simp only[oS] at h;generalize hb:(match x.op with
   |.r o=>cond m.on (cs.all fun c=>match rI o m.vals (u c) with|some v=>v.same m.v|none=>false) true
   |_=>true)=b at h
  cases b with
  |false=>simp at h
  |true=>
   simp only[cond_true] at h;simp only[cq];refine⟨?_,nL h⟩;split
   ·rename_i o ho;intro dY c hc;rw[ho] at hb;simp only[dY,cond_true,List.all_eq_true] at hb;have:=hb c hc;split at this
    ·rename_i v hv;rw[hv,AV.zD this]
    ·simp at this
   ·trivial
def vr:List bq→Option (List bq×bq)
 |[]=>none
 |[i]=>some ([],i)
 |i::l=>match vr l with
  |some (l1,j)=>some (i::l1,j)
  |none=>none
theorem vt:∀{l l1:List bq} {i:bq},vr l=some (l1,i)→l=l1++[i]
 |[],l1,i,h=>by simp[vr] at h
 |[j],l1,i,h=>by simp only[vr,Option.some.injEq,Prod.mk.injEq] at h;obtain⟨rfl,rfl⟩:=h;rfl
 |j::k::l,l1,i,h=>by
  simp only[vr] at h;split at h
  ·rename_i l2 i2 h2;simp only[Option.some.injEq,Prod.mk.injEq] at h;obtain⟨rfl,rfl⟩:=h;rw[vt (l:=k::l) h2];rfl
  ·simp at h
def zG(c:AC):Option (AC×List bq×Option Nat×Nat×AC):=
 match c with
 |.seq A d=>match d with
  |.seq o rest=>match o with
   |.ops l=>match vr l with
    |some (l1,i)=>match i.op with
     |.bad=>match i with
      |⟨dst,none,.bad,[.c (.bool true),.t a,.t b,.t c]⟩=>cond (Nat.beq a b&&Nat.beq a c) (some (A,l1,dst,a,rest)) none
      |_=>none
     |_=>none
    |none=>none
   |_=>none
  |_=>none
 |_=>none
theorem Fl{c A:AC}{l1:List bq}{dst:Option Nat}{a:Nat}{rest:AC}(h:zG c=some (A,l1,dst,a,rest)):c=.seq A (.seq (.ops (l1++[ox dst (.t a)])) rest):=by
 unfold zG at h;split at h
 ·split at h
  ·split at h
   ·split at h
    ·rename_i hl;split at h
     ·split at h
      ·rename_i Wp a2 b2 c2 _;cases hb:(Nat.beq a2 b2&&Nat.beq a2 c2) with
       |false=>rw[hb] at h;simp at h
       |true=>
        rw[hb] at h;simp only[cond_true,Option.some.injEq,Prod.mk.injEq] at h;obtain⟨rfl,rfl,rfl,rfl,rfl⟩:=h;simp only[Bool.and_eq_true] at hb;have h1:=Nat.eq_of_beq_eq_true hb.1;have h2:=Nat.eq_of_beq_eq_true hb.2;subst h1 h2;rw[vt hl];rfl
      ·simp at h
     ·simp at h
    ·simp at h
   ·simp at h
  ·simp at h
 ·simp at h
def C1(c:AC):Option (Nat×List bq×AC):=
 match c with
 |.seq (.ops (⟨some t,none,.bad,[.c (.bool false),.c (.bool false),.c (.bool false),.c (.bool false)]⟩::l2)) eD=>some (t,l2,eD)
 |_=>none
theorem yd{c:AC}{t:Nat}{l2:List bq}{eD:AC}(h:C1 c=some (t,l2,eD)):c=.seq (.ops (w6 t::l2)) eD:=by
 unfold C1 at h;split at h
 ·simp only[Option.some.injEq,Prod.mk.injEq] at h;obtain⟨rfl,rfl,rfl⟩:=h;rfl
 ·simp at h
def Cw{α:Type}:List α→Bool
 |[]=>true
 |_=>false
def Hj:AX→Bool
 |.exit _=>false
 |_=>true
abbrev Rec:=Task→(jb→Bool)→Bool
def yL(ev:Rec)(rd:Bool)(l:List bq)(win:List (List Nat))(e:Env)(h:Heap)(k:jb→Bool):Bool:=match vr l with
 |some (l1,i)=>ev (.ops rd l1 e h) fun r=>match r with
  |.ops tr e1 h1=>cond (bP i e1) (cond (oS (cr l1 tr h1) l1 (win.take l1.length) tr&&nD l&&bT i.op) (ev (.op rd i.op (i.args.map e1.ev) h1) fun r=>match r with
   |.jD v h2=>k (.code (.panic v) e1 h2)
   |_=>false) false) false
  |_=>false
 |none=>false
def u0(ev:Rec)(a b:AC)(e:Env)(h:Heap)(k:jb→Bool):Bool:=match b with
 |.block _ (.seq A (.ops l))=>cond (aY a&&aY A) (ev (.code true A e h) fun r=>match r with
  |.code .normal e1 h1=>ev (.ops true l e1 h1) fun r=>match r with
   |.code (.panic v) _ h2=>k (.jD v h2)
   |_=>false
  |_=>false) false
 |_=>false
def Gp(vals:List AV)(h:Heap)(k:jb→Bool):Bool:=match vals with
 |[.iface t x]=>k (.jD (.iface t x) h)
 |_=>false
def LW(fs:Nat→Option aC)(ev:Rec)(d:AC×List bq×Option Nat×Nat×AC)(af:aC)(args:List AV)(h:Heap)(k:jb→Bool):Bool:=match d with
 |(A,l1,dst,a,rest)=>cond (Nat.ble args.length af.ntmps&&aY A) (q7 af.ntmps args fun e0=>ev (.code false A e0 h) fun r=>match r with
  |.code .normal e1 h1=>ev (.ops false l1 e1 h1) fun r=>match r with
   |.ops tr e2 h2=>match e2.ev (.t a) with
    |.func (.func g) first aX=>ev (.code false rest (e2.put dst .undef) h2) fun r=>match r with
     |.code x e3 h3=>cond (Hj x) (match fs g with
      |some ag=>match C1 ag.body with
       |some (t,l2,eD)=>cond (Nat.ble (first++aX).length ag.ntmps&&Cw ag.results&&aY eD&&lM l2)
        (ev (.ops false l2 ((Env.start ag.ntmps (first++aX)).put (some t) (nM x)) h3) fun r=>match r with
        |.ops ye e4 h4=>ev (.code false eD e4 h4) fun r=>match r with
         |.code y e5 h5=>match y with
          |.normal|.ret=>match gK e3 h5 af.results with
           |some vs=>k (.val (cR vs) h5)
           |none=>false
          |_=>false
         |_=>false
        |_=>false) false
       |none=>false
      |none=>false) false
     |_=>false
    |_=>false
   |_=>false
  |_=>false) false
abbrev Lx:=Nat→List AV→Heap→Option (AV×Heap)
def DX:Lx:=fun _ _ _=>none
def FI(fs:Nat→Option aC)(ms:Nat→String→Option Nat)(vH:Lx):Prop:=∀f args h v h1,vH f args h=some (v,h1)→BS fs ms (.call f args h) (.val v h1)
theorem Bj{fs:Nat→Option aC}{ms:Nat→String→Option Nat}:FI fs ms DX:=fun f args h v h1 hh=>by simp[DX] at hh
section
variable (fs:Nat→Option aC) (ms:Nat→String→Option Nat) (vH:Lx)
def ev:Nat→Task→(jb→Bool)→Bool
 |0,_,_=>false
 |n+1,t,k=>match t with
  |.code rd c e h=>match c with
   |.skip=>k (.code .normal e h)
   |.ops l=>ev n (.ops rd l e h) fun r=>match r with
    |.ops tr e' h'=>k (.code .normal e' h')
    |.code (.panic v) e1 h1=>k (.code (.panic v) e1 h1)
    |_=>false
   |.bN l win=>ev n (.ops rd l e h) fun r=>match r with
    |.ops tr e' h'=>cond (oS (cr l tr h') l win tr) (k (.code .normal e' h')) false
    |.code (.panic _) _ _=>yL (ev n) rd l win e h k
    |_=>false
   |.seq a b=>ev n (.code rd a e h) fun r=>match r with
    |.code .normal e1 h1=>ev n (.code rd b e1 h1) k
    |.code x e1 h1=>k (.code x e1 h1)
    |_=>false
   |.cond c a b=>match e.ev c with
    |.bool t=>ev n (.code rd (cond t a b) e h) k
    |_=>false
   |.block id c=>ev n (.code rd c e h) fun r=>match r with
    |.code (.exit i) e1 h1=>cond (Nat.beq i id) (k (.code .normal e1 h1)) (k (.code (.exit i) e1 h1))
    |.code x e1 h1=>k (.code x e1 h1)
    |_=>false
   |.loop c=>ev n (.code rd c e h) fun r=>match r with
    |.code .normal e1 h1=>ev n (.code rd (.loop c) e1 h1) k
    |.code x e1 h1=>k (.code x e1 h1)
    |_=>false
   |.exit id=>k (.code (.exit id) e h)
   |.ret=>k (.code .ret e h)
   |.rangeFunc g ps a b=>match rd,e.ev g with
    |false,.func (.func f) first aX=>newF h (.loop 0 none e ps a b) fun h1=>ev n (.call f (first++(.yield h.next::aX)) h1) fun r=>match r with
     |.val v h2=>match h2.get h.next with
      |some (.loop st none _ _ _ _)=>cond (Nat.beq st 1) false (lB h2 h.next (.loop 3 none e ps a b) fun h3=>k (.code .normal e h3))
      |some (.loop st (some (.exit id)) _ _ _ _)=>cond (Nat.beq st 1) false (lB h2 h.next (.loop 3 (some (.exit id)) e ps a b) fun h3=>k (.code (.exit id) e h3))
      |some (.loop st (some .ret) _ _ _ _)=>cond (Nat.beq st 1) false (lB h2 h.next (.loop 3 (some .ret) e ps a b) fun h3=>k (.code .ret e h3))
      |_=>false
     |.jD v h2=>k (.code (.panic v) e h2)
     |_=>false
    |_,_=>false
   |.bad=>false
  |.ops rd l e h=>match l with
   |[]=>k (.ops [] e h)
   |i::l=>cond (bP i e)
     (ev n (.op rd i.op (i.args.map e.ev) h) fun r=>match r with
      |.val v h1=>jl e i.dst v fun e1=>ev n (.ops rd l e1 h1) fun r=>match r with
       |.ops tr e' h'=>k (.ops (⟨h,i.args.map e.ev,v,true⟩::tr) e' h')
       |.code (.panic v) e1 h2=>k (.code (.panic v) e1 h2)
       |_=>false
      |.jD v h2=>k (.code (.panic v) e h2)
      |_=>false)
     (jl e i.dst .undef fun e1=>ev n (.ops rd l e1 h) fun r=>match r with
      |.ops tr e' h'=>k (.ops (⟨h,i.args.map e.ev,.undef,false⟩::tr) e' h')
      |.code (.panic v) e1 h2=>k (.code (.panic v) e1 h2)
      |_=>false)
  |.op rd o vals h=>match o with
   |.p o=>match pI o vals with
    |some v=>fV v fun v=>k (.val v h)
    |none=>false
   |.a o=>match aI o vals with
    |some (x,f)=>fV (f h.next) fun v=>newF h x fun h1=>k (.val v h1)
    |none=>false
   |.r o=>match rI o vals h with
    |some v=>fV v fun v=>k (.val v h)
    |none=>false
   |.e o=>O6 o vals h fun v h1=>fV v fun v=>k (.val v h1)
   |.call=>match vals with
    |fv::args=>ev n (.cH fv args h) k
    |[]=>false
   |.invoke name=>match vals with
    |.iface t x::args=>match ms t name with
     |some f=>ev n (.call f (x::args) h) k
     |none=>false
    |_=>false
   |.panic=>Gp vals h k
   |_=>false
  |.cH fv args h=>match fv with
   |.func (.func f) first aX=>ev n (.call f (first++(args++aX)) h) k
   |.yield L=>match h.get L with
    |some (.loop 0 cu e ps a b)=>cond (Nat.beq args.length ps.length&&Nat.ble (L+1) h.next)
     (ev n (.code true a (fY ps args e) h) fun r=>match r with
      |.code .normal e2 h2=>match h2.get L with
       |some (.loop 0 cm _ _ _ _)=>lB h2 L (.loop 1 cm e ps a b) fun h3=>ev n (.code true b e2 h3) fun r=>match r with
        |.code (.panic _) _ _=>u0 (ev n) a b e2 h3 k
        |.code x e4 h4=>lB h4 L (.loop (cond x.bI 0 2) (dH x) e ps a b) fun h5=>k (.val (.bool x.bI) h5)
        |_=>false
       |_=>false
      |_=>false) false
    |_=>false
   |_=>false
  |.call f args h=>match vH f args h with
   |some (v,h1)=>k (.val v h1)
   |none=>match fs f with
   |some af=>match zG af.body with
    |none=>cond (Nat.ble args.length af.ntmps) (q7 af.ntmps args fun e0=>ev n (.code false af.body e0 h) fun r=>match r with
     |.code x e h1=>match x with
      |.normal|.ret=>match gK e h1 af.results with
       |some vs=>fV (cR vs) fun v=>k (.val v h1)
       |none=>false
      |.panic v=>k (.jD v h1)
      |_=>false
     |_=>false) false
    |some d=>LW fs (ev n) d af args h k
   |none=>false
  |.any ..=>false
end
section
variable {fs:Nat→Option aC} {ms:Nat→String→Option Nat} {vH:Lx}
theorem nG:∀{l:List bq} {rd:Bool} {e:Env} {h:Heap} {tr:List aK} {e':Env} {h':Heap},lM l=true→BS fs ms (.ops rd l e h) (.ops tr e' h')→h'=h
 |[],rd,e,h,tr,e',h',_,hb=>by cases hb;rfl
 |i::l,rd,e,h,tr,e',h',hp,hb=>by
  simp only[lM,Bool.and_eq_true] at hp;cases hb with
  |off hw hl=>exact nG hp.2 hl
  |on hw ho hl=>
   obtain⟨d,gd,op,as⟩:=i;cases op<;>cases gd<;>simp at hp
   cases ho
   exact nG hp hl
def Th(fs:Nat→Option aC)(ms:Nat→String→Option Nat)(t:Task)(r:jb):Prop:=match t with
 |.ops rd l e h=>match r with
  |.ops tr e' h'=>BS fs ms (.ops rd l e h) (.ops tr e' h')
  |.code (.panic v) e1 h2=>∃l1 i l2 tr h1,l=l1++i::l2∧BS fs ms (.ops rd l1 e h) (.ops tr e1 h1)∧bP i e1=true∧BS fs ms (.op rd i.op (i.args.map e1.ev) h1) (.jD v h2)
  |_=>False
 |t=>BS fs ms t r
theorem lD(ho:FI fs ms vH):∀(n:Nat) (t:Task) (k:jb→Bool),ev fs ms vH n t k=true→∃r,Th fs ms t r∧k r=true
 |0,t,k,h=>by simp[ev] at h
 |n+1,t,k,h=>by
  have tY:∀rd l e hp k,ev fs ms vH n (.ops rd l e hp) k=true→∃r,Th fs ms (.ops rd l e hp) r∧k r=true:=fun rd l e hp k=>lD ho n _ k;have lW:∀rd c e hp k,ev fs ms vH n (.code rd c e hp) k=true→∃r,BS fs ms (.code rd c e hp) r∧k r=true:=fun rd c e hp k=>lD ho n _ k;have SZ:∀rd o vals hp k,ev fs ms vH n (.op rd o vals hp) k=true→∃r,BS fs ms (.op rd o vals hp) r∧k r=true:=fun rd o vals hp k=>lD ho n _ k;have ihv:∀fv args hp k,ev fs ms vH n (.cH fv args hp) k=true→∃r,BS fs ms (.cH fv args hp) r∧k r=true:=fun fv args hp k=>lD ho n _ k;have QE:∀f args hp k,ev fs ms vH n (.call f args hp) k=true→∃r,BS fs ms (.call f args hp) r∧k r=true:=fun f args hp k=>lD ho n _ k;unfold ev at h;split at h
  ·rename_i rd c e hp;show∃r,BS fs ms (.code rd c e hp) r∧k r=true;split at h
   ·exact⟨_,.skip,h⟩
   ·obtain⟨r,hr,hk⟩:=tY _ _ _ _ _ h;split at hk
    ·exact⟨_,.ops hr,hk⟩
    ·obtain⟨l1,i,l2,tr,h1,rfl,g1,g2,g3⟩:=hr;exact⟨_,.E7 g1 g2 g3,hk⟩
    ·simp at hk
   ·rename_i l win;obtain⟨r,hr,hk⟩:=tY _ _ _ _ _ h;split at hk
    ·rename_i tr e' h';cases hb:oS (cr l tr h') l win tr with
     |false=>simp[hb] at hk
     |true=>rw[hb] at hk;exact⟨_,.bN hr (nL hb),hk⟩
    ·unfold yL at hk;split at hk
     ·rename_i l1 i hl;have:=vt hl;subst this;obtain⟨r2,xN,hk2⟩:=tY _ _ _ _ _ hk;split at hk2
      ·rename_i tr e1 h1;cases hw:bP i e1 with
       |false=>rw[hw] at hk2;simp at hk2
       |true=>
        rw[hw] at hk2;simp only[cond_true] at hk2;cases hb:(oS (cr l1 tr h1) l1 (win.take l1.length) tr&&nD (l1++[i])&&bT i.op) with
        |false=>rw[hb] at hk2;simp at hk2
        |true=>
         rw[hb] at hk2;simp only[cond_true] at hk2;simp only[Bool.and_eq_true] at hb;obtain⟨r3,Ol,pO⟩:=SZ _ _ _ _ _ hk2;split at pO
         ·exact⟨_,.xA xN (nL hb.1.1) hb.1.2 hb.2 hw Ol,pO⟩
         ·simp at pO
      ·simp at hk2
     ·simp at hk
    ·simp at hk
   ·obtain⟨r,hr,hk⟩:=lW _ _ _ _ _ h;split at hk
    ·obtain⟨r',hr',hk'⟩:=lW _ _ _ _ _ hk;exact⟨_,.w7 hr hr',hk'⟩
    ·rename_i x e1 h1 hne;refine⟨_,.n9 hr ?_,hk⟩;cases x<;>simp_all[AX.bI]
    ·simp at hk
   ·split at h
    ·rename_i t ht;obtain⟨r,hr,hk⟩:=lW _ _ _ _ _ h;exact⟨_,.cond ht hr,hk⟩
    ·simp at h
   ·rename_i id c;obtain⟨r,hr,hk⟩:=lW _ _ _ _ _ h;split at hk
    ·rename_i i e1 h1;cases hb:Nat.beq i id with
     |true=>
      rw[hb] at hk;have:=Nat.eq_of_beq_eq_true hb;subst this;exact⟨_,.nv hr,hk⟩
     |false=>
      rw[hb] at hk;refine⟨_,.fR hr ?_,hk⟩;intro j hj hji;simp only[AX.exit.injEq] at hj;subst hj hji;simp at hb
    ·rename_i x e1 h1 hne;exact⟨_,.fR hr (fun i hi=>absurd hi (by intro hc;exact hne i hc)),hk⟩
    ·simp at hk
   ·obtain⟨r,hr,hk⟩:=lW _ _ _ _ _ h;split at hk
    ·obtain⟨r',hr',hk'⟩:=lW _ _ _ _ _ hk;exact⟨_,.lI hr hr',hk'⟩
    ·rename_i x e1 h1 hne;refine⟨_,.cQ hr ?_,hk⟩;cases x<;>simp_all[AX.bI]
    ·simp at hk
   ·exact⟨_,.exit,h⟩
   ·exact⟨_,.ret,h⟩
   ·rename_i g ps a b;split at h
    ·rename_i f first aX hg
     rw[pT] at h;obtain⟨r,hr,hk⟩:=QE _ _ _ _ h;split at hk
     ·rename_i v h2;have hkeep:=hr.keep.2 hp.next 0 none e ps a b (by simp[Task.heap]) (by simp[Task.heap,Heap.bU]);obtain⟨st',kE,cn⟩:=hkeep;simp only[jb.heap] at cn;rw[cn] at hk;have hst:∀{x:Bool},cond (Nat.beq st' 1) false x=true→st'≠1∧x=true:=by
       intro x hx;cases hb:Nat.beq st' 1 with
       |true=>rw[hb] at hx;simp at hx
       |false=>rw[hb] at hx;exact⟨by(rintro rfl;simp at hb),hx⟩
      split at hk
      ·rename_i heq;simp only[Option.some.injEq,cw.loop.injEq] at heq;obtain⟨rfl,rfl,_⟩:=heq;obtain⟨h1,pN⟩:=hst hk;rw[jY] at pN;exact⟨_,.rangeFunc (x:=.normal) hg hr cn h1 (by simp),pN⟩
      ·rename_i heq;simp only[Option.some.injEq,cw.loop.injEq] at heq;obtain⟨rfl,rfl,_⟩:=heq;obtain⟨h1,pN⟩:=hst hk;rw[jY] at pN;exact⟨_,.rangeFunc (x:=.exit _) hg hr cn h1 (by simp),pN⟩
      ·rename_i heq;simp only[Option.some.injEq,cw.loop.injEq] at heq;obtain⟨rfl,rfl,_⟩:=heq;obtain⟨h1,pN⟩:=hst hk;rw[jY] at pN;exact⟨_,.rangeFunc (x:=.ret) hg hr cn h1 (by simp),pN⟩
      ·simp at hk
     ·exact⟨_,.jM hg hr,hk⟩
     ·simp at hk
    ·simp at h
   ·simp at h
  ·rename_i rd l e hp;show∃r,Th fs ms (.ops rd l e hp) r∧k r=true;split at h
   ·exact⟨.ops [] e hp,(.nil:BS fs ms (.ops rd [] e hp) (.ops [] e hp)),h⟩
   ·rename_i i l;cases hw:bP i e with
    |true=>
     rw[hw] at h;obtain⟨r,hr,hk⟩:=SZ _ _ _ _ _ h;split at hk
     ·rw[jT] at hk;obtain⟨r',hr',hk'⟩:=tY _ _ _ _ _ hk;split at hk'
      ·rename_i tr e' h';exact⟨.ops _ e' h',(.on hw hr hr':BS fs ms (.ops rd (i::l) e hp) (.ops _ e' h')),hk'⟩
      ·rename_i v e1 h2;obtain⟨l1,j,l2,tr,h1,rfl,g1,g2,g3⟩:=hr';exact⟨.code (.panic v) e1 h2,⟨i::l1,j,l2,_,h1,rfl,.on hw hr g1,g2,g3⟩,hk'⟩
      ·simp at hk'
     ·rename_i v h2;exact⟨.code (.panic v) e h2,⟨[],i,l,[],hp,rfl,.nil,hw,hr⟩,hk⟩
     ·simp at hk
    |false=>
     rw[hw] at h;simp only[cond_false,jT] at h;obtain⟨r,hr,hk⟩:=tY _ _ _ _ _ h;split at hk
     ·rename_i tr e' h';exact⟨.ops _ e' h',(.off hw hr:BS fs ms (.ops rd (i::l) e hp) (.ops _ e' h')),hk⟩
     ·rename_i v e1 h2;obtain⟨l1,j,l2,tr,h1,rfl,g1,g2,g3⟩:=hr;exact⟨.code (.panic v) e1 h2,⟨i::l1,j,l2,_,h1,rfl,.off hw g1,g2,g3⟩,hk⟩
     ·simp at hk
  ·rename_i rd o vals hp;show∃r,BS fs ms (.op rd o vals hp) r∧k r=true;split at h
   ·split at h
    ·rename_i v hv;rw[xE] at h;exact⟨_,.BV hv,h⟩
    ·simp at h
   ·split at h
    ·rename_i x f hv;rw[xE,pT] at h;exact⟨_,.Kk hv,h⟩
    ·simp at h
   ·split at h
    ·rename_i v hv;rw[xE] at h;exact⟨_,.D1 hv,h⟩
    ·simp at h
   ·obtain⟨v,h1,hv,hk⟩:=EE h;rw[xE] at hk;exact⟨_,.IU hv,hk⟩
   ·split at h
    ·obtain⟨r,hr,hk⟩:=ihv _ _ _ _ h;cases hr with
     |cH hc=>exact⟨_,.lJ (.cH hc),hk⟩
     |om hc=>exact⟨_,.nE (.om hc),hk⟩
     |yield h1 h2 h3 h4 h5 h6 h7=>exact⟨_,.lJ (.yield h1 h2 h3 h4 h5 h6 h7),hk⟩
     |pe h1 h2 h3 h4 h5 h6 h7 h8 h9 h10=>exact⟨_,.nE (.pe h1 h2 h3 h4 h5 h6 h7 h8 h9 h10),hk⟩
    ·simp at h
   ·split at h
    ·split at h
     ·rename_i f hf;obtain⟨r,hr,hk⟩:=QE _ _ _ _ h;rcases hr.As with⟨v,h1,rfl⟩|⟨v,h1,rfl⟩
      ·exact⟨_,.j7 hf hr,hk⟩
      ·exact⟨_,.kT hf hr,hk⟩
     ·simp at h
    ·simp at h
   ·unfold Gp at h;split at h
    ·exact⟨_,.pW,h⟩
    ·simp at h
   ·simp at h
  ·rename_i fv args hp;show∃r,BS fs ms (.cH fv args hp) r∧k r=true;split at h
   ·obtain⟨r,hr,hk⟩:=QE _ _ _ _ h;rcases hr.As with⟨v,h1,rfl⟩|⟨v,h1,rfl⟩
    ·exact⟨_,.cH hr,hk⟩
    ·exact⟨_,.om hr,hk⟩
   ·rename_i L;split at h
    ·rename_i cu e ps a b hg;cases hc:(Nat.beq args.length ps.length&&Nat.ble (L+1) hp.next) with
     |false=>rw[hc] at h;simp at h
     |true=>
      rw[hc] at h;simp only[cond_true] at h;simp only[Bool.and_eq_true] at hc;have hlen:=Nat.eq_of_beq_eq_true hc.1;have hL:L<hp.next:=Nat.le_of_ble_eq_true hc.2;obtain⟨r,hr,hk⟩:=lW _ _ _ _ _ h;split at hk
      ·rename_i e2 h2;obtain⟨st',kE,cn⟩:=hr.keep.2 L 0 cu e ps a b hL hg;simp only[jb.heap] at cn;rw[cn] at hk;split at hk
       ·rename_i heq;simp only[Option.some.injEq,cw.loop.injEq] at heq;obtain⟨rfl,rfl,_⟩:=heq;rw[jY] at hk;obtain⟨r',hr',hk'⟩:=lW _ _ _ _ _ hk;have yT:L<h2.next:=Nat.lt_of_lt_of_le hL hr.keep.1;split at hk'
        ·unfold u0 at hk';split at hk'
         ·rename_i id A l hbx;cases hn:(aY a&&aY A) with
          |false=>rw[hn] at hk';simp at hk'
          |true=>
           rw[hn] at hk';simp only[cond_true] at hk';simp only[Bool.and_eq_true] at hn;obtain⟨rA,hrA,Ue⟩:=lW _ _ _ _ _ hk';split at Ue
           ·obtain⟨rl,hrl,Ld⟩:=tY _ _ _ _ _ Ue;split at Ld
            ·obtain⟨l1,i,l2,tr,wz,rfl,g1,g2,g3⟩:=hrl;exact⟨_,.pe hg hlen hr hn.1 cn hn.2 hrA g1 g2 g3,Ld⟩
            ·simp at Ld
           ·simp at Ue
         ·simp at hk'
        ·rename_i x e4 h4 hnp;obtain⟨It,oN,PY⟩:=hr'.keep.2 L 1 kE e ps a b yT (by simp[Task.heap,Heap.bt]);rw[jY] at hk';exact⟨_,.yield hg hlen hr cn hr' (fun v hv=>hnp v hv) PY,hk'⟩
        ·simp at hk'
       ·simp at hk
      ·simp at hk
    ·simp at h
   ·simp at h
  ·rename_i f args hp;show∃r,BS fs ms (.call f args hp) r∧k r=true;split at h
   ·rename_i v h1 hor;exact⟨_,ho _ _ _ _ _ hor,h⟩
   split at h
   ·rename_i af PA;split at h
    ·cases hl:Nat.ble args.length af.ntmps with
     |false=>rw[hl] at h;simp at h
     |true=>
      rw[hl] at h;simp only[cond_true,m8] at h;obtain⟨r,hr,hk⟩:=lW _ _ _ _ _ h;split at hk
      ·split at hk
       ·split at hk
        ·rename_i vs hvs;rw[xE] at hk;exact⟨_,.call PA (Nat.le_of_ble_eq_true hl) hr (.inl rfl) hvs,hk⟩
        ·simp at hk
       ·split at hk
        ·rename_i vs hvs;rw[xE] at hk;exact⟨_,.call PA (Nat.le_of_ble_eq_true hl) hr (.inr rfl) hvs,hk⟩
        ·simp at hk
       ·exact⟨_,.uQ PA (Nat.le_of_ble_eq_true hl) hr,hk⟩
       ·simp at hk
      ·simp at hk
    ·rename_i d hd;obtain⟨A,l1,dst,a,rest⟩:=d;have hbody:=Fl hd;unfold LW at h;simp only at h;cases hl:(Nat.ble args.length af.ntmps&&aY A) with
     |false=>rw[hl] at h;simp at h
     |true=>
      rw[hl] at h;simp only[cond_true,m8] at h;simp only[Bool.and_eq_true] at hl;obtain⟨r1,uB,y6⟩:=lW _ _ _ _ _ h;split at y6
      ·obtain⟨r2,xN,hk2⟩:=tY _ _ _ _ _ y6;split at hk2
       ·rename_i tr e2 h2;split at hk2
        ·rename_i g first aX z5
         obtain⟨r3,Ol,pO⟩:=lW _ _ _ _ _ hk2;split at pO
         ·rename_i x e3 h3;cases hx:Hj x with
          |false=>rw[hx] at pO;simp at pO
          |true=>
           rw[hx] at pO;simp only[cond_true] at pO;split at pO
           ·rename_i ag gQ;split at pO
            ·rename_i t l2 eD SO;cases hc:(Nat.ble (first++aX).length ag.ntmps&&Cw ag.results&&aY eD&&lM l2) with
             |false=>rw[hc] at pO;simp at pO
             |true=>
              rw[hc] at pO;simp only[cond_true] at pO;simp only[Bool.and_eq_true] at hc;obtain⟨r4,SN,Mz⟩:=tY _ _ _ _ _ pO;split at Mz
              ·rename_i ye e4 h4;have hh:=nG hc.2 SN;subst hh;obtain⟨r5,V0,IM⟩:=lW _ _ _ _ _ Mz;have QC:x=.normal∨x=.ret∨∃v,x=.panic v:=by
                cases x with
                |normal=>exact .inl rfl
                |ret=>exact .inr (.inl rfl)
                |panic v=>exact .inr (.inr ⟨v,rfl⟩)
                |exit id=>simp[Hj] at hx
               have Ql:ag.results=[]:=by
                have:=hc.1.1.2;cases Cu:ag.results with
                |nil=>rfl
                |cons _ _=>rw[Cu] at this;simp[Cw] at this
               split at IM
               ·rename_i y e5 h5;split at IM
                ·split at IM
                 ·rename_i vs hvs;exact⟨_,.tP PA (Nat.le_of_ble_eq_true hl.1) hbody uB hl.2 xN z5 Ol QC gQ (Nat.le_of_ble_eq_true hc.1.1.1) (yd SO) Ql hc.1.2 SN hc.2 V0 (.inl rfl) hvs,IM⟩
                 ·simp at IM
                ·split at IM
                 ·rename_i vs hvs;exact⟨_,.tP PA (Nat.le_of_ble_eq_true hl.1) hbody uB hl.2 xN z5 Ol QC gQ (Nat.le_of_ble_eq_true hc.1.1.1) (yd SO) Ql hc.1.2 SN hc.2 V0 (.inr rfl) hvs,IM⟩
                 ·simp at IM
                ·simp at IM
               ·simp at IM
              ·simp at Mz
            ·simp at pO
           ·simp at pO
         ·simp at pO
        ·simp at hk2
       ·simp at hk2
      ·simp at y6
   ·simp at h
  ·simp at h
end
end Ads
end Go.Proofs.Ytenafeojcgmnhaa
set_option linter.unusedSimpArgs false
set_option linter.unusedVariables false
namespace Go.Proofs.Ytenafeojcgmnhaa
namespace Ads
def St(o:NT)(args:List AV):Option (cw×(Nat→AV)):=
 match o with
 |.alloc iJ=>match args with
  |[]=>some (.cells iJ true 0,fun b=>.ptr b 0)
  |_=>none
 |.box=>l1 args fun v=>some (.cells v.cells true 0,fun b=>.ptr b 0)
 |o=>aI o args
theorem BY(o:NT)(args:List AV):St o args=aI o args:=by
 cases o
 case alloc z=>cases args<;>rfl
 case box=>rcases args with _|⟨x,_|⟨y,r⟩⟩<;>rfl
 all_goals rfl
def Wj(o:BM)(args:List AV)(h:Heap):Option AV:=
 match o with
 |.bW=>l1 args fun x=>Ax x fun b o=>h.bW b o
 |.aO n=>l1 args fun x=>Ax x fun b o=>(h.aO b o n).map .agg
 |o=>rI o args h
theorem NA(o:BM)(args:List AV)(h:Heap):Wj o args h=rI o args h:=by
 cases o
 case bW=>rcases args with _|⟨x,_|⟨y,r⟩⟩<;>first|rfl|(cases x<;>rfl)
 case aO n=>rcases args with _|⟨x,_|⟨y,r⟩⟩<;>first|rfl|(cases x<;>rfl)
 all_goals rfl
def Jo(n:Nat)(args:List AV)(h:Heap)(k:AV→Heap→Bool):Bool:=
 match args with
 |[x,v]=>match x with
  |.ptr b o=>cond (Nat.beq v.cells.length n) (q8 h b o v.cells fun h=>k .undef h) false
  |_=>false
 |_=>false
def VA(o:wD)(args:List AV)(h:Heap)(k:AV→Heap→Bool):Bool:=
 match o with
 |.store n=>Jo n args h k
 |o=>O6 o args h k
theorem LN(o:wD)(args:List AV)(h:Heap)(k:AV→Heap→Bool):VA o args h k=O6 o args h k:=by
 cases o
 case store n=>rcases args with _|⟨x,_|⟨y,_|⟨z,r⟩⟩⟩<;>first|rfl|(cases x<;>rfl)
 all_goals rfl
def UT(k:jb→Bool)(r:jb):Bool:=match r with
 |.ops tr e' h'=>k (.code .normal e' h')
 |.code (.panic v) e1 h1=>k (.code (.panic v) e1 h1)
 |_=>false
def QH(ev:Rec)(rd:Bool)(l:List bq)(win:List (List Nat))(e:Env)(h:Heap)(k:jb→Bool)(r:jb):Bool:=match r with
 |.ops tr e' h'=>cond (oS (cr l tr h') l win tr) (k (.code .normal e' h')) false
 |.code (.panic _) _ _=>yL ev rd l win e h k
 |_=>false
def QJ(ev:Rec)(rd:Bool)(b:AC)(k:jb→Bool)(r:jb):Bool:=match r with
 |.code .normal e1 h1=>ev (.code rd b e1 h1) k
 |.code x e1 h1=>k (.code x e1 h1)
 |_=>false
def Na(id:Nat)(k:jb→Bool)(r:jb):Bool:=match r with
 |.code (.exit i) e1 h1=>cond (Nat.beq i id) (k (.code .normal e1 h1)) (k (.code (.exit i) e1 h1))
 |.code x e1 h1=>k (.code x e1 h1)
 |_=>false
def Nc(e:Env)(ps:List Nat)(a b:AC)(L:Nat)(k:jb→Bool)(r:jb):Bool:=match r with
 |.val v h2=>match h2.get L with
  |some (.loop st none _ _ _ _)=>cond (Nat.beq st 1) false (lB h2 L (.loop 3 none e ps a b) fun h3=>k (.code .normal e h3))
  |some (.loop st (some (.exit id)) _ _ _ _)=>cond (Nat.beq st 1) false (lB h2 L (.loop 3 (some (.exit id)) e ps a b) fun h3=>k (.code (.exit id) e h3))
  |some (.loop st (some .ret) _ _ _ _)=>cond (Nat.beq st 1) false (lB h2 L (.loop 3 (some .ret) e ps a b) fun h3=>k (.code .ret e h3))
  |_=>false
 |.jD v h2=>k (.code (.panic v) e h2)
 |_=>false
def Jn(ev:Rec)(rd:Bool)(g:bG)(ps:List Nat)(a b:AC)(e:Env)(h:Heap)(k:jb→Bool):Bool:=match rd,e.ev g with
 |false,.func (.func f) first aX=>newF h (.loop 0 none e ps a b) fun h1=>ev (.call f (first++(.yield h.next::aX)) h1) (Nc e ps a b h.next k)
 |_,_=>false
def LV(ev:Rec)(rd:Bool)(v:AV)(a b:AC)(e:Env)(h:Heap)(k:jb→Bool):Bool:=match v with
 |.bool t=>ev (.code rd (cond t a b) e h) k
 |_=>false
def LU(ev:Rec)(rd:Bool)(c:AC)(e:Env)(h:Heap)(k:jb→Bool):Bool:=match c with
 |.skip=>k (.code .normal e h)
 |.ops l=>ev (.ops rd l e h) (UT k)
 |.bN l win=>ev (.ops rd l e h) (QH ev rd l win e h k)
 |.seq a b=>ev (.code rd a e h) (QJ ev rd b k)
 |.cond c a b=>LV ev rd (e.ev c) a b e h k
 |.block id c=>ev (.code rd c e h) (Na id k)
 |.loop c=>ev (.code rd c e h) (QJ ev rd (.loop c) k)
 |.exit id=>k (.code (.exit id) e h)
 |.ret=>k (.code .ret e h)
 |.rangeFunc g ps a b=>Jn ev rd g ps a b e h k
 |.bad=>false
def Lk(h:Heap)(vals:List AV)(v:AV)(on:Bool)(k:jb→Bool)(r:jb):Bool:=match r with
 |.ops tr e' h'=>k (.ops (⟨h,vals,v,on⟩::tr) e' h')
 |.code (.panic v) e1 h2=>k (.code (.panic v) e1 h2)
 |_=>false
def UU(ev:Rec)(rd:Bool)(i:bq)(l:List bq)(e:Env)(h:Heap)(k:jb→Bool)(r:jb):Bool:=match r with
 |.val v h1=>jl e i.dst v fun e1=>ev (.ops rd l e1 h1) (Lk h (i.args.map e.ev) v true k)
 |.jD v h2=>k (.code (.panic v) e h2)
 |_=>false
def Pd(ev:Rec)(rd:Bool)(l:List bq)(e:Env)(h:Heap)(k:jb→Bool):Bool:=match l with
 |[]=>k (.ops [] e h)
 |i::l=>cond (bP i e) (ev (.op rd i.op (i.args.map e.ev) h) (UU ev rd i l e h k))
   (jl e i.dst .undef fun e1=>ev (.ops rd l e1 h) (Lk h (i.args.map e.ev) .undef false k))
def QK(h:Heap)(k:jb→Bool)(o:Option AV):Bool:=match o with
 |some v=>fV v fun v=>k (.val v h)
 |none=>false
def QI(h:Heap)(k:jb→Bool)(o:Option (cw×(Nat→AV))):Bool:=match o with
 |some (x,f)=>fV (f h.next) fun v=>newF h x fun h1=>k (.val v h1)
 |none=>false
def Jk(ev:Rec)(vals:List AV)(h:Heap)(k:jb→Bool):Bool:=match vals with
 |fv::args=>ev (.cH fv args h) k
 |[]=>false
section
variable (fs:Nat→Option aC) (ms:Nat→String→Option Nat) (vH:Lx)
def Pc(ev:Rec)(name:String)(vals:List AV)(h:Heap)(k:jb→Bool):Bool:=match vals with
 |.iface t x::args=>match ms t name with
  |some f=>ev (.call f (x::args) h) k
  |none=>false
 |_=>false
def Gn(ev:Rec)(o:gw)(vals:List AV)(h:Heap)(k:jb→Bool):Bool:=match o with
 |.p o=>QK h k (Kn o vals)
 |.a o=>QI h k (St o vals)
 |.r o=>QK h k (Wj o vals h)
 |.e o=>VA o vals h fun v h1=>fV v fun v=>k (.val v h1)
 |.call=>Jk ev vals h k
 |.invoke name=>Pc ms ev name vals h k
 |.panic=>Gp vals h k
 |_=>false
def JX(ev:Rec)(e2:Env)(h3:Heap)(h:Heap)(L:Nat)(e:Env)(ps:List Nat)(a b:AC)(k:jb→Bool)(r:jb):Bool:=match r with
 |.code (.panic _) _ _=>u0 ev a b e2 h3 k
 |.code x e4 h4=>lB h4 L (.loop (cond x.bI 0 2) (dH x) e ps a b) fun h5=>k (.val (.bool x.bI) h5)
 |_=>false
def JW(ev:Rec)(h:Heap)(L:Nat)(e:Env)(ps:List Nat)(a b:AC)(k:jb→Bool)(r:jb):Bool:=match r with
 |.code .normal e2 h2=>match h2.get L with
  |some (.loop 0 cm _ _ _ _)=>lB h2 L (.loop 1 cm e ps a b) fun h3=>ev (.code true b e2 h3) (JX ev e2 h3 h L e ps a b k)
  |_=>false
 |_=>false
def Jp(ev:Rec)(L:Nat)(args:List AV)(h:Heap)(k:jb→Bool):Bool:=match h.get L with
 |some (.loop 0 cu e ps a b)=>cond (Nat.beq args.length ps.length&&Nat.ble (L+1) h.next)
   (ev (.code true a (fY ps args e) h) (JW ev h L e ps a b k)) false
 |_=>false
def Jm(ev:Rec)(fv:AV)(args:List AV)(h:Heap)(k:jb→Bool):Bool:=match fv with
 |.func (.func f) first aX=>ev (.call f (first++(args++aX)) h) k
 |.yield L=>Jp ev L args h k
 |_=>false
def UW(rs:List qF)(e:Env)(h:Heap)(k:jb→Bool):Bool:=match gK e h rs with
 |some vs=>fV (cR vs) fun v=>k (.val v h)
 |none=>false
def US(rs:List qF)(k:jb→Bool)(r:jb):Bool:=match r with
 |.code x e h1=>match x with
  |.normal|.ret=>UW rs e h1 k
  |.panic v=>k (.jD v h1)
  |_=>false
 |_=>false
def LS(ev:Rec)(af:aC)(args:List AV)(h:Heap)(k:jb→Bool):Bool:=
 cond (Nat.ble args.length af.ntmps) (q7 af.ntmps args fun e0=>ev (.code false af.body e0 h) (US af.results k)) false
def Pe{β:Type}:Tr β→(Tr β→Bool)→Bool
 |.nil,k=>k .nil
 |.node l v r,k=>Pe l fun l=>Pe r fun r=>match v with
  |none=>k (.node l none r)
  |some x=>k (.node l (some x) r)
theorem Ch{β:Type}:∀(t:Tr β) (k:Tr β→Bool),Pe t k=k t
 |.nil,k=>rfl
 |.node l v r,k=>by
  simp only[Pe];rw[Ch l,Ch r];cases v<;>rfl
def Tu(h:Heap)(k:Heap→Bool):Bool:=match h with
 |⟨n,m⟩=>oC n fun n=>Pe m fun m=>k ⟨n,m⟩
theorem LY(h:Heap)(k:Heap→Bool):Tu h k=k h:=by cases h;simp only[Tu,uy,Ch]
def Jl(ev:Rec)(f:Nat)(args:List AV)(h:Heap)(k:jb→Bool):Bool:=match fs f with
 |some af=>match zG af.body with
  |none=>LS ev af args h k
  |some d=>LW fs ev d af args h k
 |none=>false
def Gl(ev:Rec)(f:Nat)(args:List AV)(h:Heap)(k:jb→Bool):Bool:=match vH f args h with
 |some (v,h1)=>Tu h1 fun h1=>k (.val v h1)
 |none=>Jl fs ev f args h k
def s9(ev:Rec)(t:Task)(k:jb→Bool):Bool:=match t with
 |.code rd c e h=>LU ev rd c e h k
 |.ops rd l e h=>Pd ev rd l e h k
 |.op rd o vals h=>Gn ms ev o vals h k
 |.cH fv args h=>Jm ev fv args h k
 |.call f args h=>Gl fs vH ev f args h k
 |.any ..=>false
def N1:Nat→Rec
 |0=>fun _ _=>false
 |n+1=>fun t k=>s9 fs ms vH (N1 n) t k
theorem Gm:∀n,N1 fs ms vH n=ev fs ms vH n
 |0=>by funext t k;rfl
 |n+1=>by
  funext t k
  simp only[N1,Gm n];cases t with
  |code rd c e h=>
   cases c<;>rfl
  |ops rd l e h=>cases l<;>rfl
  |op rd o vals h=>
   cases o
   case p o=>simp only[s9,Gn,CL];rfl
   case a o=>simp only[s9,Gn,BY];rfl
   case r o=>simp only[s9,Gn,NA];rfl
   case e o=>simp only[s9,Gn,LN];rfl
   all_goals rfl
  |cH fv args h=>cases fv<;>rfl
  |call f args h=>
   simp only[s9,Gl,LY];rfl
  |any rd c e h=>rfl
end
theorem AB{fs:Nat→Option aC}{ms:Nat→String→Option Nat}{vH:Lx}{n:Nat}{t:Task}{k:jb→Bool}(h:N1 fs ms vH n t k=true):ev fs ms vH n t k=true:=by
 rw[←Gm];exact h
end Ads
end Go.Proofs.Ytenafeojcgmnhaa
set_option linter.unusedSimpArgs false
set_option linter.unusedVariables false
namespace Go.Proofs.Ytenafeojcgmnhaa
namespace Ads
def IW(q:Nat→aC→Prop):List (Nat×aC)→Prop
 |[]=>True
 |p::l=>q p.1 p.2∧IW q l
def QZ:List (Nat×aC)→Tr aC
 |[]=>.nil
 |p::l=>(QZ l).set p.1 p.2
theorem jR{q:Nat→aC→Prop}:∀{l:List (Nat×aC)},IW q l→∀{f:Nat} {af:aC},(QZ l).get f=some af→q f af
 |[],_,f,af,h=>by simp[QZ,Tr.get] at h
 |p::l,hq,f,af,h=>by
  simp only[QZ,Tr.bt] at h;split at h
  ·rename_i he;cases h
   rw[he];exact hq.1
  ·exact jR hq.2 h
section
variable {P:Program} {fs:Nat→Option aC} {ms:Nat→String→Option Nat}
theorem ES(H0:Nat)(ρ:cD)(w:World)(hl:H0≤w.heap.size):Inv P H0 ρ (fun _=>False) ⟨0,.nil⟩ w:=
 ⟨fun b hb=>hb.elim,fun b _=>rfl,hl,fun b x hb _=>hb.elim,fun b b' hb _ _ _ _=>hb.elim⟩
structure Kept(w w':World):Prop where
 size:w.heap.size≤w'.heap.size
 old:∀r:Nat,r<w.heap.size→w'.heap[r]?=w.heap[r]?
 tape:w'.tape=w.tape
 os:w'.os=w.os
 output:w'.output=w.output
theorem BS.calls(sys:jc P fs ms){f:Nat}{args:List AV}{v:AV}{h1:Heap}(h:BS fs ms (.call f args ⟨0,.nil⟩) (.val v h1))(ha:bg (fun _=>False) args)(w:World):
  Calls P f (au default args).toArray w fun e w'=>∃ρ,e=.returned (real ρ v)∧Kept w w':=by
 have hs:=(h.sound sys w.heap.size).1;have:=hs default (fun _=>False) w 0 (ES _ _ w (Nat.le_refl _)) ha;rw[callsIn_wide] at this;refine this.mono ?_;rintro e w' ⟨ρ',rfl,hi,hx,hv⟩;exact⟨ρ',rfl,hx.size,fun r hr=>hx.frame r hr (fun b hb=>hb.elim),hx.tape,hx.os,hx.output⟩
def isTrue:jb→Bool
 |.val (.bool true) _=>true
 |_=>false
theorem Jq{vH:Lx}(ho:FI fs ms vH){n f:Nat}{h:Heap}(he:ev fs ms vH n (.call f [] h) isTrue=true):∃h1,BS fs ms (.call f [] h) (.val (.bool true) h1):=by
 obtain⟨r,hr,hk⟩:=lD ho n _ _ he;cases r with
 |val v h1=>
  cases v with
  |bool b=>cases b with
   |true=>exact⟨h1,hr⟩
   |false=>simp[isTrue] at hk
  |_=>simp[isTrue] at hk
 |_=>simp[isTrue] at hk
end
end Ads
end Go.Proofs.Ytenafeojcgmnhaa
set_option linter.unusedSimpArgs false
set_option linter.unusedVariables false
namespace Go.Proofs.Ytenafeojcgmnhaa
namespace Ads
def Jt{α:Type}:List AV→(List AV→α)→α
 |[],k=>k []
 |v::vs,k=>fC v fun v=>Jt vs fun vs=>k (v::vs)
theorem yN{α:Type}:∀(l:List AV) (k:List AV→α),Jt l k=k l
 |[],k=>rfl
 |v::vs,k=>by simp[Jt,AD,yN vs]
section
variable (fs:Nat→Option aC) (ms:Nat→String→Option Nat) (rd:Bool)
abbrev xu(t:Bool)(A B:Prop):Prop:=@Bool.rec (fun _=>Prop) B A t
def Comes(c:AC)(e:Env)(h:Heap)(Q:AX→Env→Heap→Prop):Prop:=∃x e' h',BS fs ms (.code rd c e h) (.code x e' h')∧Q x e' h'
def uM(l:List bq)(e:Env)(h:Heap)(Q:Env→Heap→Prop):Prop:=∃tr e' h',BS fs ms (.ops rd l e h) (.ops tr e' h')∧Q e' h'
def xg(f:Nat)(args:List AV)(h:Heap)(Q:AV→Heap→Prop):Prop:=∃v h',BS fs ms (.call f args h) (.val v h')∧Q v h'
def NI(o:pz)(vals:List AV):Bool:=
 match o with
 |.bin op=>match vals with
  |.str _::_=>match op with
   |.add=>false
   |_=>true
  |_=>match op with
   |.quo|.rem|.shl|.shr=>false
   |_=>true
 |.ak _|.bV _ _|.EP _ _ _|.za|.slice _ _ _ _|.lP _ _|.lO _ _ _ _ _=>false
 |_=>true
def wpOp(o:gw)(vals:List AV)(h:Heap)(k:AV→Heap→Prop):Prop:=
 match o with
 |.p .pick=>match vals with
  |[.bool c,a,b]=>xu c (fC a fun v=>k v h) (fC b fun v=>k v h)
  |_=>False
 |.p o=>match NI o vals with
  |true=>match Kn o vals with
   |some v=>fC v fun v=>k v h
   |none=>False
  |false=>∃v,Kn o vals=some v∧fC v fun v=>k v h
 |.a o=>match St o vals with
  |some (x,f)=>k (f h.next) (h.new x)
  |none=>False
 |.r o=>∃v,rI o vals h=some v∧k v h
 |.e o=>∃v h1,eI o vals h=some (v,h1)∧k v h1
 |.call=>match vals with
  |.func (.func f) first aX::args=>xg fs ms f (first++(args++aX)) h k
  |fv::args=>∃v h1,BS fs ms (.cH fv args h) (.val v h1)∧k v h1
  |[]=>False
 |.invoke name=>match vals with
  |.iface t x::args=>match ms t name with
   |some f=>xg fs ms f (x::args) h k
   |none=>False
  |_=>False
 |_=>False
def Fq:List bq→Env→Heap→(Env→Heap→Prop)→Prop
 |[],e,h,k=>k e h
 |i::l,e,h,k=>match i.guard with
  |none=>Jt (i.args.map e.ev) fun vals=>wpOp fs ms i.op vals h fun v h1=>jl e i.dst v fun e1=>Fq l e1 h1 k
  |some (d,want)=>match e.get d with
   |.bool b=>match want with
    |true=>xu b (Jt (i.args.map e.ev) fun vals=>wpOp fs ms i.op vals h fun v h1=>jl e i.dst v fun e1=>Fq l e1 h1 k) (jl e i.dst .undef fun e1=>Fq l e1 h k)
    |false=>xu b (jl e i.dst .undef fun e1=>Fq l e1 h k) (Jt (i.args.map e.ev) fun vals=>wpOp fs ms i.op vals h fun v h1=>jl e i.dst v fun e1=>Fq l e1 h1 k)
   |_=>jl e i.dst .undef fun e1=>Fq l e1 h k
def Dg:AC→Env→Heap→(AX→Env→Heap→Prop)→Prop
 |.skip,e,h,k=>k .normal e h
 |.ops l,e,h,k=>Fq fs ms l e h fun e h=>k .normal e h
 |.bN l win,e,h,k=>match win.all (·.isEmpty) with
  |true=>Fq fs ms l e h fun e h=>k .normal e h
  |false=>∃tr e' h',BS fs ms (.ops rd l e h) (.ops tr e' h')∧lN l win tr h'∧k .normal e' h'
 |.seq a b,e,h,k=>Dg a e h fun x e1 h1=>match x with
  |.normal=>Dg b e1 h1 k
  |x=>k x e1 h1
 |.cond c a b,e,h,k=>match e.ev c with
  |.bool t=>xu t (Dg a e h k) (Dg b e h k)
  |_=>False
 |.block id c,e,h,k=>Dg c e h fun x e1 h1=>match x with
  |.exit i=>match Nat.beq i id with
   |true=>k .normal e1 h1
   |false=>k (.exit i) e1 h1
  |x=>k x e1 h1
 |.loop c,e,h,k=>Comes fs ms rd (.loop c) e h k
 |.rangeFunc f ps a b,e,h,k=>Comes fs ms rd (.rangeFunc f ps a b) e h k
 |.exit id,e,h,k=>k (.exit id) e h
 |.ret,e,h,k=>k .ret e h
 |.bad,_,_,_=>False
end
section
variable {fs:Nat→Option aC} {ms:Nat→String→Option Nat} {rd:Bool}
theorem wo{o:gw}{vals:List AV}{h:Heap}{k:AV→Heap→Prop}(hw:wpOp fs ms o vals h k):∃v h1,BS fs ms (.op rd o vals h) (.val v h1)∧k v h1:=by
 unfold wpOp at hw;split at hw
 ·split at hw
  ·rename_i c a b;cases c with
   |true=>exact⟨_,_,.BV (v:=a) rfl,by rw[←AD a fun v=>k v h];exact hw⟩
   |false=>exact⟨_,_,.BV (v:=b) rfl,by rw[←AD b fun v=>k v h];exact hw⟩
  ·exact hw.elim
 ·split at hw
  ·split at hw
   ·rename_i v hv;rw[CL] at hv;rw[AD] at hw;exact⟨_,_,.BV hv,hw⟩
   ·exact hw.elim
  ·obtain⟨v,hv,hw⟩:=hw;rw[CL] at hv;rw[AD] at hw;exact⟨_,_,.BV hv,hw⟩
 ·split at hw
  ·rename_i x f hv;rw[BY] at hv;exact⟨_,_,.Kk hv,hw⟩
  ·exact hw.elim
 ·obtain⟨v,hv,hk⟩:=hw;exact⟨_,_,.D1 hv,hk⟩
 ·obtain⟨v,h1,hv,hk⟩:=hw;exact⟨_,_,.IU hv,hk⟩
 ·split at hw
  ·obtain⟨v,h1,hb,hk⟩:=hw;exact⟨_,_,.lJ (.cH hb),hk⟩
  ·obtain⟨v,h1,hb,hk⟩:=hw;exact⟨_,_,.lJ hb,hk⟩
  ·exact hw.elim
 ·split at hw
  ·split at hw
   ·rename_i f hf;obtain⟨v,h1,hb,hk⟩:=hw;exact⟨_,_,.j7 hf hb,hk⟩
   ·exact hw.elim
  ·exact hw.elim
 ·exact hw.elim
theorem kX:∀{l:List bq} {e:Env} {h:Heap} {k:Env→Heap→Prop},Fq fs ms l e h k→uM fs ms rd l e h k
 |[],e,h,k,hw=>⟨_,_,_,.nil,hw⟩
 |i::l,e,h,k,hw=>by
  unfold Fq at hw;split at hw
  ·rename_i hg;rw[yN] at hw;obtain⟨v,h1,hb,hk⟩:=wo (rd:=rd) hw;rw[jT] at hk;obtain⟨tr,e',h',hl,hk⟩:=kX hk;exact⟨_,_,_,.on (by simp[bP,hg]) hb hl,hk⟩
  ·rename_i d want hg;split at hw
   ·rename_i b hb;have dY:b=want→(Jt (i.args.map e.ev) fun vals=>wpOp fs ms i.op vals h fun v h1=>jl e i.dst v fun e1=>Fq fs ms l e1 h1 k)→uM fs ms rd (i::l) e h k:=by
     intro TQ hw;rw[yN] at hw;obtain⟨v,h1,hb',hk⟩:=wo (rd:=rd) hw;rw[jT] at hk;obtain⟨tr,e',h',hl,hk⟩:=kX hk;exact⟨_,_,_,.on (by simp[bP,hg,hb,TQ]) hb' hl,hk⟩
    have hoff:b=!want→(jl e i.dst .undef fun e1=>Fq fs ms l e1 h k)→uM fs ms rd (i::l) e h k:=by
     intro TQ hk;rw[jT] at hk;obtain⟨tr,e',h',hl,hk⟩:=kX hk;exact⟨_,_,_,.off (by simp[bP,hg,hb,TQ]) hl,hk⟩
    cases want<;>cases b
    ·exact dY rfl hw
    ·exact hoff rfl hw
    ·exact hoff rfl hw
    ·exact dY rfl hw
   ·rename_i hne;rw[jT] at hw;obtain⟨tr,e',h',hl,hk⟩:=kX hw;refine⟨_,_,_,.off ?_ hl,hk⟩;unfold bP;rw[hg];cases hv:e.get d with
    |bool b=>exact absurd hv (hne b)
    |_=>simp only[hv]
theorem sC{u:Nat→Heap}:∀{l:List bq} {win:List (List Nat)} {tr:List aK},win.all (·.isEmpty)=true→cq u l win tr
 |[],_,_,_=>by simp[cq]
 |_::_,[],_,_=>by simp[cq]
 |_::_,_::_,[],_=>by simp[cq]
 |x::l,cs::win,m::tr,h=>by
  simp only[List.all_cons,Bool.and_eq_true] at h;simp only[cq];refine⟨?_,sC h.2⟩;split
  ·intro _ c hc;rw[List.isEmpty_iff.1 h.1] at hc;simp at hc
  ·trivial
theorem jO:∀{c:AC} {e:Env} {h:Heap} {k:AX→Env→Heap→Prop},Dg fs ms rd c e h k→Comes fs ms rd c e h k
 |.skip,e,h,k,hw=>⟨_,_,_,.skip,hw⟩
 |.ops l,e,h,k,hw=>by
  obtain⟨tr,e',h',hb,hk⟩:=kX (rd:=rd) (show Fq fs ms l e h _ from hw);exact⟨_,_,_,.ops hb,hk⟩
 |.bN l win,e,h,k,hw=>by
  unfold Dg at hw;split at hw
  ·rename_i wR;obtain⟨tr,e',h',hb,hk⟩:=kX (rd:=rd) hw;exact⟨_,_,_,.bN hb (sC wR),hk⟩
  ·obtain⟨tr,e',h',hb,hr,hk⟩:=hw;exact⟨_,_,_,.bN hb hr,hk⟩
 |.seq a b,e,h,k,hw=>by
  obtain⟨x,e1,h1,hb,hk⟩:=jO (show Dg fs ms rd a e h _ from hw);cases x with
  |normal=>
   obtain⟨x2,e2,h2,jh,hk2⟩:=jO (show Dg fs ms rd b e1 h1 k from hk);exact⟨_,_,_,.w7 hb jh,hk2⟩
  |exit i=>exact⟨_,_,_,.n9 hb rfl,hk⟩
  |ret=>exact⟨_,_,_,.n9 hb rfl,hk⟩
  |panic v=>exact⟨_,_,_,.n9 hb rfl,hk⟩
 |.cond c a b,e,h,k,hw=>by
  unfold Dg at hw;split at hw
  ·rename_i t ht;cases t with
   |true=>
    obtain⟨x,e1,h1,hb,hk⟩:=jO (show Dg fs ms rd a e h k from hw);exact⟨_,_,_,.cond ht hb,hk⟩
   |false=>
    obtain⟨x,e1,h1,hb,hk⟩:=jO (show Dg fs ms rd b e h k from hw);exact⟨_,_,_,.cond ht hb,hk⟩
  ·exact hw.elim
 |.block id c,e,h,k,hw=>by
  obtain⟨x,e1,h1,hb,hk⟩:=jO (show Dg fs ms rd c e h _ from hw);cases x with
  |exit i=>
   simp only at hk;split at hk
   ·rename_i K3;have:=Nat.eq_of_beq_eq_true K3;subst this;exact⟨_,_,_,.nv hb,hk⟩
   ·rename_i K3;refine⟨_,_,_,.fR hb ?_,hk⟩;intro j hj hji;simp only[AX.exit.injEq] at hj;subst hj hji;simp at K3
  |normal=>exact⟨_,_,_,.fR hb (by simp),hk⟩
  |ret=>exact⟨_,_,_,.fR hb (by simp),hk⟩
  |panic v=>exact⟨_,_,_,.fR hb (by simp),hk⟩
 |.loop c,e,h,k,hw=>hw
 |.rangeFunc f ps a b,e,h,k,hw=>hw
 |.exit id,e,h,k,hw=>⟨_,_,_,.exit,hw⟩
 |.ret,e,h,k,hw=>⟨_,_,_,.ret,hw⟩
 |.bad,e,h,k,hw=>hw.elim
theorem br{t:Bool}{A B:Prop}(h1:t=true→A)(h2:t=false→B):@Bool.rec (fun _=>Prop) B A t:=by
 cases t with
 |true=>exact h1 rfl
 |false=>exact h2 rfl
def LQ(af:aC)(Q:AV→Heap→Prop):AX→Env→Heap→Prop:=fun x e h=>match x with
 |.normal|.ret=>match gK e h af.results with
  |some vs=>Jt vs fun vs=>match vs with
   |[v]=>Q v h
   |vs=>Q (.cg vs) h
  |none=>False
 |_=>False
theorem O9{Q:AV→Heap→Prop}{vs:List AV}{h:Heap}(hk:Jt vs fun vs=>match vs with
   |[v]=>Q v h
   |vs=>Q (.cg vs) h):Q (cR vs) h:=by
 rw[yN] at hk;rcases vs with _|⟨v,_|⟨u,r⟩⟩<;>exact hk
theorem Vw{f:Nat}{af:aC}{args:List AV}{h:Heap}{Q:AV→Heap→Prop}(hf:fs f=some af)(hlen:args.length≤af.ntmps)
  (hw:q7 af.ntmps args fun e=>Dg fs ms false af.body e h (LQ af Q)):xg fs ms f args h Q:=by
 rw[m8] at hw;obtain⟨x,e1,h1,hb,hk⟩:=jO hw;cases x with
 |normal=>
  simp only[LQ] at hk;split at hk
  ·rename_i vs hvs;exact⟨_,_,.call hf hlen hb (.inl rfl) hvs,O9 hk⟩
  ·exact hk.elim
 |ret=>
  simp only[LQ] at hk;split at hk
  ·rename_i vs hvs;exact⟨_,_,.call hf hlen hb (.inr rfl) hvs,O9 hk⟩
  ·exact hk.elim
 |exit i=>exact hk.elim
 |panic v=>exact hk.elim
theorem xg.mono{f:Nat}{args:List AV}{h:Heap}{Q Q':AV→Heap→Prop}(hc:xg fs ms f args h Q)(hq:∀v h',Q v h'→Q' v h'):xg fs ms f args h Q':=by
 obtain⟨v,h',hb,hk⟩:=hc;exact⟨v,h',hb,hq v h' hk⟩
theorem Comes.mono{c:AC}{e:Env}{h:Heap}{Q Q':AX→Env→Heap→Prop}(hc:Comes fs ms rd c e h Q)(hq:∀x e' h',Q x e' h'→Q' x e' h'):Comes fs ms rd c e h Q':=by
 obtain⟨x,e',h',hb,hk⟩:=hc;exact⟨x,e',h',hb,hq x e' h' hk⟩
theorem LH{c:AC}{e:Env}{h:Heap}{Q:AX→Env→Heap→Prop}
  (hw:Dg fs ms rd c e h fun x e1 h1=>match x with|.normal=>Comes fs ms rd (.loop c) e1 h1 Q|x=>Q x e1 h1):Comes fs ms rd (.loop c) e h Q:=by
 obtain⟨x,e1,h1,hb,hk⟩:=jO hw;cases x with
 |normal=>
  obtain⟨x2,e2,h2,jh,hk2⟩:=hk;exact⟨_,_,_,.lI hb jh,hk2⟩
 |exit i=>exact⟨_,_,_,.cQ hb rfl,hk⟩
 |ret=>exact⟨_,_,_,.cQ hb rfl,hk⟩
 |panic v=>exact⟨_,_,_,.cQ hb rfl,hk⟩
def sk:Nat→(Nat→Option AV)→Env
 |0,_=>.nil
 |d+1,g=>.node (sk d fun j=>g (2*j+1)) (g 0) (sk d fun j=>g (2*j+2))
def isFull:Nat→Env→Bool
 |0,.nil=>true
 |d+1,.node l _ r=>cond (isFull d l) (isFull d r) false
 |_,_=>false
theorem CZ:∀(d:Nat) (e:Env),isFull d e=true→sk d (Tr.get e)=e
 |0,.nil,_=>rfl
 |0,.node _ _ _,h=>by simp[isFull] at h
 |d+1,.nil,h=>by simp[isFull] at h
 |d+1,.node l v r,h=>by
  simp only[isFull] at h;cases hl:isFull d l with
  |false=>rw[hl] at h;simp at h
  |true=>
   rw[hl] at h;simp only[cond_true] at h;have h1:(fun j=>(Tr.node l v r).get (2*j+1))=Tr.get l:=by
    funext j
    rw[Tr.iE _ _ (by omega)];simp only[Tr.left]
    congr 1
    omega
   have h2:(fun j=>(Tr.node l v r).get (2*j+2))=Tr.get r:=by
    funext j
    rw[Tr.fu _ _ (by omega) (by omega)];simp only[Tr.right]
    congr 1
    omega
   simp only[sk];rw[h1,h2,CZ d l hl,CZ d r h];simp[Tr.get]
def kn(l:List (Nat×AV))(g:Nat→Option AV)(i:Nat):Option AV:=
 match l with
 |[]=>g i
 |(j,v)::r=>cond (Nat.beq i j) (some v) (kn r g i)
def aW(e:Env):List (Nat×AV)→Prop
 |[]=>True
 |(i,v)::l=>Tr.get e i=some v∧aW e l
theorem Hq{e:Env}:∀{l:List (Nat×AV)},aW e l→∀i,kn l (Tr.get e) i=Tr.get e i
 |[],_,i=>rfl
 |(j,v)::r,h,i=>by
  simp only[kn];cases hb:Nat.beq i j with
  |false=>exact Hq h.2 i
  |true=>
   have:=Nat.eq_of_beq_eq_true hb;subst this;exact h.1.symm
theorem Rt{P:Env→Prop}{e:Env}(d:Nat)(l:List (Nat×AV))(hf:isFull d e=true)(hl:aW e l)(hc:∀g,P (sk d (kn l g))):P e:=by
 have:=hc (Tr.get e)
 rwa [show kn l (Tr.get e)=Tr.get e from funext (Hq hl),CZ d e hf] at this
theorem O3{c:AC}{e:Env}{h:Heap}{Q:AX→Env→Heap→Prop}(d:Nat)(l:List (Nat×AV))(hf:isFull d e=true)(hl:aW e l)
  (hc:∀g,Comes fs ms rd c (sk d (kn l g)) h Q):Comes fs ms rd c e h Q:=Rt (P:=fun e=>Comes fs ms rd c e h Q) d l hf hl hc
end
end Ads
end Go.Proofs.Ytenafeojcgmnhaa
