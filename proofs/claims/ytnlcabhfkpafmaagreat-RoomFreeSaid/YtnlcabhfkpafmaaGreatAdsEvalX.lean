/-
  The pure operations once more, one small function each: for the kernel, that copies what it opens.
  An evaluator of big steps for Lean's kernel: continuations, data worked out before it is handed on. It is sound.
  The evaluator: loops' records are kept; comparing; the evaluator itself, and that it is sound.
  The evaluator itself, and that it is sound.
  The evaluator in small pieces: for the kernel, that copies what it opens.
  Tables of compiled functions; what a closed run comes to in the model.
  What code must come to, as a proposition that is worked out from the code: for functions whose arguments are not known.
-/
import Derived.Test.YtnlcabhfkpafmaaGreatAdsMain
set_option linter.unusedSimpArgs false
set_option linter.unusedVariables false
namespace Go.Proofs.YtnlcabhfkpafmaaGreat
namespace Ads
def l1{α:Type}(args:List AV)(f:AV→Option α):Option α:=match args with
 |[x]=>f x
 |_=>none
def l2{α:Type}(args:List AV)(f:AV→AV→Option α):Option α:=match args with
 |[x,y]=>f x y
 |_=>none
def l3{α:Type}(args:List AV)(f:AV→AV→AV→Option α):Option α:=match args with
 |[x,y,z]=>f x y z
 |_=>none
def lc{α:Type}(args:List AV)(f:AV→List AV→Option α):Option α:=match args with
 |x::r=>f x r
 |_=>none
def zJ{α:Type}(v:AV)(f:IntKind→Int→Option α):Option α:=match v with
 |.int k n=>f k n
 |_=>none
def Ey{α:Type}(v:AV)(f:Bool→Option α):Option α:=match v with
 |.bool b=>f b
 |_=>none
def CV{α:Type}(v:AV)(f:List UInt8→Option α):Option α:=match v with
 |.str s=>f s
 |_=>none
def Be{α:Type}(v:AV)(f:Nat→Nat→Option α):Option α:=match v with
 |.ptr b o=>f b o
 |_=>none
def M9{α:Type}(v:AV)(f:List AV→Option α):Option α:=match v with
 |.agg cs=>f cs
 |_=>none
def Qo{α:Type}(v:AV)(f:List AV→Option α):Option α:=match v with
 |.cD cs=>f cs
 |_=>none
def Qn{α:Type}(v:AV)(f:Nat→Nat→Nat→Nat→Bool→Option α)(g:Option α):Option α:=match v with
 |.sl b o l c op=>f b o l c op
 |.aH=>g
 |_=>none
def sE{α:Type}(v:AV)(f:Nat→Option α):Option α:=match asNat v with
 |some n=>f n
 |none=>none
def CM(op:BinOp)(x y:AV):Option AV:=
 match x with
 |.int k a=>zJ y fun k' b=>cond (kf op) (nj op k a b) (cond (decide (k=k')) (rG op k a b) none)
 |.str a=>CV y fun b=>zx op a b
 |_=>none
def xd(size:Nat)(lo hi m:Bool)(x:AV)(r:List AV):Option AV:=
 match x with
 |.fY a=>(match bounds 0 0 lo hi m r with
  |some _=>some (.fY a)
  |none=>none)
 |.rest b o k=>(match bounds 0 0 lo hi m r with
  |some _=>cond m none (some (.rest b o k))
  |none=>none)
 |x=>Qn x (fun b o len cap jS=>match bounds len cap lo hi m r with
  |some (l,h,mm)=>cond (Nat.beq mm l&&Nat.beq cap mm&&(jS&&!m&&!Nat.beq l 0)) (some (.rest b o (l*size))) (some (.sl b (o+cond (Nat.beq mm l) 0 (l*size)) (h-l) (mm-l) (cond m false jS)))
  |none=>none) (match bounds 0 0 lo hi m r with
  |some _=>some .aH
  |none=>none)
def Ok(o:qk)(args:List AV):Option AV:=
 match o with
 |.Ly=>l1 args some
 |.pick=>l3 args fun c a b=>Ey c fun c=>some (cond c a b)
 |.bin op=>l2 args (CM op)
 |.eq k=>l2 args fun x y=>(CZ k x y).map .bool
 |.neq k=>l2 args fun x y=>(CZ k x y).map fun b=>.bool !b
 |.not=>l1 args fun x=>Ey x fun b=>some (.bool !b)
 |.neg=>l1 args fun x=>zJ x fun k n=>some (.int k (k.wrap (0-n)))
 |.FA=>l1 args fun x=>CV x fun s=>some (.str s)
 |.conv k=>l1 args fun x=>zJ x fun _ n=>some (.int k (k.wrap n))
 |.field off n g=>l1 args fun x=>M9 x fun cs=>part cs off n g
 |.ext i=>l1 args fun x=>Qo x fun vs=>vs[i]?
 |.pT=>l1 args fun x=>Be x fun b o=>some (.ptr b o)
 |.vO off=>l1 args fun x=>Be x fun b o=>some (.ptr b (o+off))
 |.aG size=>l2 args fun x i=>Qn x (fun b o len _ _=>sE i fun i=>cond (Nat.ble (i+1) len) (some (.ptr b (o+i*size))) none) none
 |.dR size len=>l2 args fun x i=>Be x fun b o=>sE i fun i=>cond (Nat.ble (i+1) len) (some (.ptr b (o+i*size))) none
 |.GK size len g=>l2 args fun x i=>M9 x fun cs=>sE i fun i=>cond (Nat.ble (i+1) len) (part cs (i*size) size g) none
 |.BO=>l2 args fun x i=>CV x fun s=>sE i fun i=>(s[i]?).map fun b=>.int .u8 b.toNat
 |.build iC parts=>(fill iC parts args).map .agg
 |.vm t=>l1 args fun x=>some (.iface t x)
 |.jG fn n=>some (.func fn (args.take n) (args.drop n))
 |.bX=>l1 args fun x=>match x with
  |.fY _=>some (.int .i64 0)
  |.rest _ _ _=>some (.int .i64 0)
  |x=>Qn x (fun _ _ len _ _=>some (.int .i64 len)) (some (.int .i64 0))
 |.wz=>l1 args fun x=>CV x fun s=>some (.int .i64 s.length)
 |.GQ n=>some (.int .i64 n)
 |.mx=>lc args fun x r=>kU max2 x r
 |.mn=>lc args fun x r=>kU min2 x r
 |.slice size lo hi m=>lc args fun x r=>xd size lo hi m x r
 |.mw lo hi=>lc args fun x r=>CV x fun s=>match bounds s.length s.length lo hi false r with
  |some (l,h,_)=>some (.str ((s.take h).drop l))
  |none=>none
 |.mu size len lo hi m=>lc args fun x r=>Be x fun b o=>match bounds len len lo hi m r with
  |some (l,h,mm)=>some (.sl b (o+cond (Nat.beq mm l) 0 (l*size)) (h-l) (mm-l) false)
  |none=>none
 |.qK t ok zero=>l1 args fun x=>match x with
  |.iface u v=>cond (Nat.beq u t) (some (cond ok (.cD [v,.bool true]) v)) (cond ok (some (.cD [zero,.bool false])) none)
  |.jI=>cond ok (some (.cD [zero,.bool false])) none
  |_=>none
theorem Er(op:BinOp)(x y:AV):CM op x y=xD op x y:=by
 cases x<;>cases y<;>rfl
theorem DI(o:qk)(args:List AV):Ok o args=pI o args:=by
 cases o
 case build z ps=>rfl
 case jG fn n=>rfl
 case GQ n=>rfl
 case bin op=>rcases args with _|⟨x,_|⟨y,_|⟨z,r⟩⟩⟩<;>first|rfl|exact Er op x y
 case mx=>cases args<;>rfl
 case mn=>cases args<;>rfl
 case slice size lo hi m=>rcases args with _|⟨x,r⟩<;>first|rfl|(cases x<;>rfl)
 case mw lo hi=>rcases args with _|⟨x,r⟩<;>first|rfl|(cases x<;>rfl)
 case mu size len lo hi m=>rcases args with _|⟨x,r⟩<;>first|rfl|(cases x<;>rfl)
 case pick=>rcases args with _|⟨x,_|⟨y,_|⟨z,_|⟨u,r⟩⟩⟩⟩<;>first|rfl|(cases x<;>rfl)
 case qK t ok zero=>rcases args with _|⟨x,_|⟨y,r⟩⟩<;>first|rfl|(cases x<;>rfl)
 all_goals (rcases args with _|⟨x,_|⟨y,_|⟨z,r⟩⟩⟩<;>first|rfl|(cases x<;>rfl)|(cases x<;>cases y<;>rfl))
end Ads
end Go.Proofs.YtnlcabhfkpafmaaGreat
set_option linter.unusedSimpArgs false
set_option linter.unusedVariables false
namespace Go.Proofs.YtnlcabhfkpafmaaGreat
namespace Ads
section
variable {α:Type}
def pz(n:Nat)(k:Nat→α):α:=match n with
 |0=>k 0
 |m+1=>k (Nat.succ m)
theorem vf(n:Nat)(k:Nat→α):pz n k=k n:=by cases n<;>rfl
def QC(n:Int)(k:Int→α):α:=match n with
 |.ofNat m=>pz m fun m=>k (.ofNat m)
 |.negSucc m=>pz m fun m=>k (.negSucc m)
theorem Nq(n:Int)(k:Int→α):QC n k=k n:=by cases n<;>simp[QC,vf]
def IY(b:Bool)(k:Bool→α):α:=match b with
 |true=>k true
 |false=>k false
theorem IZ(b:Bool)(k:Bool→α):IY b k=k b:=by cases b<;>rfl
def fS(v:AV)(k:AV→α):α:=match v with
 |.bool b=>IY b fun b=>k (.bool b)
 |.int kd n=>QC n fun n=>k (.int kd n)
 |.ptr b o=>pz b fun b=>pz o fun o=>k (.ptr b o)
 |.sl b o l c op=>pz b fun b=>pz o fun o=>pz l fun l=>pz c fun c=>IY op fun op=>k (.sl b o l c op)
 |.map b=>pz b fun b=>k (.map b)
 |.yield b=>pz b fun b=>k (.yield b)
 |.str s=>k (.str s)
 |.bq=>k .bq
 |.aH=>k .aH
 |.fY a=>k (.fY a)
 |.rest b o j=>pz b fun b=>pz o fun o=>pz j fun j=>k (.rest b o j)
 |.jJ=>k .jJ
 |.func a b c=>k (.func a b c)
 |.jz=>k .jz
 |.iface t v=>k (.iface t v)
 |.jI=>k .jI
 |.agg cs=>k (.agg cs)
 |.cD cs=>k (.cD cs)
 |.fz f l=>k (.fz f l)
 |.fp cs o=>k (.fp cs o)
theorem Pf(v:AV)(k:AV→α):fS v k=k v:=by cases v<;>simp[fS,vf,Nq,IZ]
def fL:List AV→(List AV→α)→α
 |[],k=>k []
 |v::vs,k=>fS v fun v=>fL vs fun vs=>k (v::vs)
theorem EB:∀(l:List AV) (k:List AV→α),fL l k=k l
 |[],k=>rfl
 |v::vs,k=>by simp[fL,Pf,EB vs]
def fB:List UInt8→(List UInt8→α)→α
 |[],k=>k []
 |v::vs,k=>fB vs fun vs=>k (v::vs)
theorem Pe:∀(l:List UInt8) (k:List UInt8→α),fB l k=k l
 |[],k=>rfl
 |v::vs,k=>by simp[fB,Pe vs]
def fV(v:AV)(k:AV→α):α:=match v with
 |.agg cs=>fL cs fun cs=>k (.agg cs)
 |.cD cs=>fL cs fun cs=>k (.cD cs)
 |.iface t v=>fS v fun v=>k (.iface t v)
 |.str s=>fB s fun s=>k (.str s)
 |.func f a b=>fL a fun a=>fL b fun b=>k (.func f a b)
 |v=>fS v k
theorem yD(v:AV)(k:AV→α):fV v k=k v:=by cases v<;>simp[fV,Pf,EB,Pe]
def xX{β:Type}(x:Option β):Nat→Tr β→Nat→(Tr β→α)→α
 |0,t,_,k=>k t
 |f+1,.nil,n,k=>cond (Nat.beq n 0) (k (.node .nil x .nil))
   (cond (Nat.beq (n%2) 1) (xX x f .nil (n/2) fun l=>k (.node l none .nil)) (xX x f .nil (n/2-1) fun r=>k (.node .nil none r)))
 |f+1,.node l v r,n,k=>cond (Nat.beq n 0) (k (.node l x r))
   (cond (Nat.beq (n%2) 1) (xX x f l (n/2) fun l=>k (.node l v r)) (xX x f r (n/2-1) fun r=>k (.node l v r)))
theorem sZ{β:Type}(x:Option β):∀(f:Nat) (t:Tr β) (n:Nat) (k:Tr β→α),xX x f t n k=k (Tr.put x f t n)
 |0,t,n,k=>rfl
 |f+1,.nil,n,k=>by
  simp only[xX,Tr.put];cases Nat.beq n 0
  ·cases Nat.beq (n%2) 1<;>simp[sZ x f,Tr.left,Tr.right,Tr.val]
  ·rfl
 |f+1,.node l v r,n,k=>by
  simp only[xX,Tr.put];cases Nat.beq n 0
  ·cases Nat.beq (n%2) 1<;>simp[sZ x f,Tr.left,Tr.right,Tr.val]
  ·rfl
end
def El{α:Type}:List AV→Nat→Env→(Env→α)→α
 |[],_,e,k=>k e
 |v::vs,i,e,k=>xX (some v) (i+1) e i fun e=>El vs (i+1) e k
theorem AZ{α:Type}:∀(l:List AV) (i:Nat) (e:Env) (k:Env→α),El l i e k=k (Env.args l i e)
 |[],i,e,k=>rfl
 |v::vs,i,e,k=>by simp[El,sZ,AZ vs,Env.args,Tr.set]
def p8{α:Type}(n:Nat)(args:List AV)(k:Env→α):α:=El args 0 (Tr.full (Nat.log2 n+1)) k
theorem nH{α:Type}(n:Nat)(args:List AV)(k:Env→α):p8 n args k=k (Env.start n args):=AZ _ _ _ _
def fC{α:Type}(v:AV)(k:AV→α):α:=match v with
 |.bool b=>k (.bool b)
 |.int kd n=>k (.int kd n)
 |.ptr b o=>k (.ptr b o)
 |.sl b o l c op=>k (.sl b o l c op)
 |.map b=>k (.map b)
 |.yield b=>k (.yield b)
 |.str s=>k (.str s)
 |.bq=>k .bq
 |.aH=>k .aH
 |.fY a=>k (.fY a)
 |.rest b o j=>k (.rest b o j)
 |.jJ=>k .jJ
 |.func a b c=>k (.func a b c)
 |.jz=>k .jz
 |.iface t v=>k (.iface t v)
 |.jI=>k .jI
 |.agg cs=>k (.agg cs)
 |.cD cs=>k (.cD cs)
 |.fz f l=>k (.fz f l)
 |.fp cs o=>k (.fp cs o)
theorem Bi{α:Type}(v:AV)(k:AV→α):fC v k=k v:=by cases v<;>rfl
def Cn{α β:Type}(t:Tr β)(n:Nat)(x:β)(k:Tr β→α):α:=xX (some x) (n+1) t n k
theorem th{α β:Type}(t:Tr β)(n:Nat)(x:β)(k:Tr β→α):Cn t n x k=k (t.set n x):=sZ _ _ _ _ _
def jA{α:Type}(e:Env)(d:Option Nat)(v:AV)(k:Env→α):α:=match d with
 |some d=>Cn e d v k
 |none=>k e
theorem ki{α:Type}(e:Env)(d:Option Nat)(v:AV)(k:Env→α):jA e d v k=k (e.put d v):=by
 cases d<;>simp[jA,Env.put,th]
def newF{α:Type}(h:Heap)(x:ck)(k:Heap→α):α:=
 match x with
 |.cells vs wr es=>fL vs fun vs=>Cn h.m h.next (.cells vs wr es) fun m=>pz (h.next+1) fun n=>k ⟨n,m⟩
 |x=>Cn h.m h.next x fun m=>pz (h.next+1) fun n=>k ⟨n,m⟩
theorem qA{α:Type}(h:Heap)(x:ck)(k:Heap→α):newF h x k=k (h.new x):=by
 cases x<;>simp[newF,EB,th,vf,Heap.new]
def lW{α:Type}(h:Heap)(b:Nat)(x:ck)(k:Heap→α):α:=
 match x with
 |.cells vs wr es=>fL vs fun vs=>Cn h.m b (.cells vs wr es) fun m=>k ⟨h.next,m⟩
 |x=>Cn h.m b x fun m=>k ⟨h.next,m⟩
theorem kz{α:Type}(h:Heap)(b:Nat)(x:ck)(k:Heap→α):lW h b x k=k (h.set b x):=by
 cases x<;>simp[lW,EB,th,Heap.set]
def Na{α:Type}(h:Heap)(b:Nat)(k:Heap→α):α:=xX none (b+1) h.m b fun m=>k ⟨h.next,m⟩
theorem Ez{α:Type}(h:Heap)(b:Nat)(k:Heap→α):Na h b k=k (h.del b):=by
 simp[Na,sZ,Heap.del,Tr.del]
def si(h:Heap)(b o:Nat)(xs:List AV)(k:Heap→Bool):Bool:=
 match h.get b with
 |some (.cells vs true es)=>cond (Nat.ble (o+xs.length) vs.length&&bz xs) (lW h b (.cells (Heap.splice vs o xs) true es) k) false
 |_=>false
theorem qI(h:Heap)(b o:Nat)(xs:List AV)(k:Heap→Bool):si h b o xs k=match h.di b o xs with|some h=>k h|none=>false:=by
 unfold si Heap.di;cases hg:h.get b with
 |none=>rfl
 |some x=>
  cases x with
  |cells vs wr es=>
   cases wr with
   |true=>simp only[];cases(Nat.ble (o+xs.length) vs.length&&bz xs)<;>simp[kz]
   |false=>rfl
  |_=>rfl
def TU(o:xB)(args:List AV)(h:Heap)(k:AV→Heap→Bool):Bool:=
 match o,args with
 |.store n,[.ptr b o,v]=>cond (Nat.beq v.cells.length n) (si h b o v.cells fun h=>k .undef h) false
 |.append size bytes,[s,x]=>match aS size h x with
  |none=>false
  |some (n,new)=>cond (bz new) (match s with
   |.aH=>cond (Nat.beq n 0) (k .aH h)
     (cond (Nat.ble (n*bytes) 140737488355328&&Nat.ble n 9223372036854775807) (newF h (.cells new true size) fun h1=>k (.sl h.next 0 n n true) h1) false)
   |.sl b o len cap jS=>cond (Nat.beq n 0&&Nat.ble len cap) (k (.sl b o len cap jS) h) (cond (Nat.ble (len+n) cap)
     (si h b (o+len*size) new fun h=>k (.sl b o (len+n) cap jS) h)
     (cond (Nat.ble ((len+n)*bytes) 140737488355328&&Nat.ble (len+n) 9223372036854775807)
      (match h.get b,h.bf b o (len*size) with
      |some (.cells vs wr es),some old=>cond jS
        (cond (wr&&Nat.beq vs.length (o+len*size)&&Nat.beq cap len&&Nat.beq es size)
         (Na h b fun h2=>newF h2 (.cells (old++new) true size) fun h1=>k (.sl h.next 0 (len+n) (len+n) true) h1) false)
        (newF h (.cells (old++new) true size) fun h1=>k (.sl h.next 0 (len+n) (len+n) true) h1)
      |_,_=>false) false))
   |_=>false) false
 |.copy size,[d,x]=>match d,aS size h x with
  |.aH,some _=>k (.int .i64 0) h
  |.sl b o len _ _,some (n,new)=>si h b o (new.take (min n len*size)) fun h=>k (.int .i64 (min n len)) h
  |_,_=>false
 |.clear zs,[d]=>match d with
  |.aH=>k .undef h
  |.sl b o len _ _=>si h b o (dH zs len) fun h=>k .undef h
  |_=>false
 |.ins,[.map b,kv,v]=>match h.get b with
  |some (.map es bs c)=>match findKey kv es with
   |some r=>lW h b (.map (putKey kv v es) (oM r bs c) (vH r c)) fun h=>k .undef h
   |none=>false
  |_=>false
 |.range,[.map b]=>match h.get b with
  |some (.map _ _ c)=>newF h (.iter b c [] c) fun h1=>k (.ptr h.next 0) h1
  |_=>false
 |.next,[.ptr it 0]=>match h.get it with
  |some (.iter m _ seen last)=>match h.get m with
   |some (.map _ bs _)=>cond (pP seen last bs&&(oQ seen bs).isEmpty) (Na h it fun h1=>k (.cD [.bool false]) h1) false
   |_=>false
  |_=>false
 |.Kj,[.map b,kv]=>match h.get b with
  |some (.map es bs c)=>match findKey kv es with
   |some _=>lW h b (.map (delKey kv es) (mL kv es bs) c) fun h=>k (.cD []) h
   |none=>false
  |_=>false
 |_,_=>false
theorem Gk{o:xB}{args:List AV}{h:Heap}{k:AV→Heap→Bool}(hh:TU o args h k=true):∃v h1,eI o args h=some (v,h1)∧k v h1=true:=by
 unfold TU at hh;split at hh
 ·rename_i n b o v;simp only[eI];cases hb:Nat.beq v.cells.length n with
  |false=>simp[hb] at hh
  |true=>
   simp only[hb,cond_true,qI] at hh⊢;cases hs:h.di b o v.cells with
   |none=>simp[hs] at hh
   |some h1=>rw[hs] at hh;exact⟨.undef,h1,rfl,hh⟩
 ·rename_i size bytes s x;simp only[eI];cases hsc:aS size h x with
  |none=>simp[hsc] at hh
  |some p=>
   obtain⟨n,new⟩:=p;simp only[hsc] at hh⊢;cases hf:bz new with
   |false=>simp[hf] at hh
   |true=>
    simp only[hf,cond_true] at hh⊢;split at hh
    ·cases h0:Nat.beq n 0 with
     |true=>rw[h0] at hh;exact⟨_,_,rfl,hh⟩
     |false=>
      rw[h0] at hh;simp only[cond_false,qA] at hh⊢;cases hc:(Nat.ble (n*bytes) 140737488355328&&Nat.ble n 9223372036854775807) with
      |false=>simp[hc] at hh
      |true=>rw[hc] at hh;exact⟨_,_,rfl,hh⟩
    ·rename_i b o len cap jS;cases yO:(Nat.beq n 0&&Nat.ble len cap) with
     |true=>simp only[yO,cond_true] at hh⊢;exact⟨_,_,rfl,hh⟩
     |false=>
     simp only[yO,cond_false] at hh⊢;cases hle:Nat.ble (len+n) cap with
     |true=>
      simp only[hle,cond_true,qI] at hh⊢;cases hs:h.di b (o+len*size) new with
      |none=>simp[hs] at hh
      |some h1=>rw[hs] at hh;exact⟨_,_,rfl,hh⟩
     |false=>
      simp only[hle,cond_false] at hh⊢;cases hc:(Nat.ble ((len+n)*bytes) 140737488355328&&Nat.ble (len+n) 9223372036854775807) with
      |false=>simp[hc] at hh
      |true=>
       simp only[hc,cond_true] at hh⊢;split at hh
       ·rename_i vs wr es old hg hl;rw[hg,hl];simp only;cases jS with
        |false=>simp only[cond_false,qA] at hh⊢;exact⟨_,_,rfl,hh⟩
        |true=>
         simp only[cond_true] at hh⊢;cases hw:(wr&&Nat.beq vs.length (o+len*size)&&Nat.beq cap len&&Nat.beq es size) with
         |false=>simp[hw] at hh
         |true=>
          simp only[hw,cond_true,Ez,qA] at hh⊢;exact⟨_,_,rfl,hh⟩
       ·simp at hh
    ·simp at hh
 ·rename_i size d x;simp only[eI];split at hh
  ·rename_i q hq;rw[hq];exact⟨_,_,rfl,hh⟩
  ·rename_i b o len cap jS n new hq;rw[hq];simp only[qI] at hh⊢;cases hs:h.di b o (new.take (min n len*size)) with
   |none=>simp[hs] at hh
   |some h1=>rw[hs] at hh;exact⟨_,_,rfl,hh⟩
  ·simp at hh
 ·rename_i zs d;simp only[eI];split at hh
  ·exact⟨_,_,rfl,hh⟩
  ·rename_i b o len cap jS;simp only[qI] at hh⊢;cases hs:h.di b o (dH zs len) with
   |none=>simp[hs] at hh
   |some h1=>rw[hs] at hh;exact⟨_,_,rfl,hh⟩
  ·simp at hh
 ·rename_i b kv v;simp only[eI];split at hh
  ·rename_i es bs c hg;rw[hg];split at hh
   ·rename_i r hr;simp only[hr,kz] at hh⊢;exact⟨_,_,rfl,hh⟩
   ·simp at hh
  ·simp at hh
 ·rename_i b;simp only[eI];split at hh
  ·rename_i es bs c hg;rw[hg];simp only[qA] at hh⊢;exact⟨_,_,rfl,hh⟩
  ·simp at hh
 ·rename_i it;simp only[eI];split at hh
  ·rename_i m since seen last hg;rw[hg];simp only;split at hh
   ·rename_i es bs c hm;rw[hm];simp only;cases hc:(pP seen last bs&&(oQ seen bs).isEmpty) with
    |false=>simp[hc] at hh
    |true=>
     simp only[hc,cond_true,Ez] at hh⊢;exact⟨_,_,rfl,hh⟩
   ·simp at hh
  ·simp at hh
 ·rename_i b kv;simp only[eI];split at hh
  ·rename_i es bs c hg;rw[hg];split at hh
   ·rename_i r hr;simp only[hr,kz] at hh⊢;exact⟨_,_,rfl,hh⟩
   ·simp at hh
  ·simp at hh
 ·simp at hh
end Ads
end Go.Proofs.YtnlcabhfkpafmaaGreat
set_option linter.unusedSimpArgs false
set_option linter.unusedVariables false
namespace Go.Proofs.YtnlcabhfkpafmaaGreat
namespace Ads
theorem tO{α:Type}{c:Bool}{x:α}{y:α}(h:cond c (some x) none=some y):x=y:=by
 cases c with
 |false=>simp at h
 |true=>simpa using h
def LK(h h':Heap):Prop:=h.next≤h'.next∧∀L st cE e ps a b,L<h.next→h.get L=some (.loop st cE e ps a b)→∃st' kX,h'.get L=some (.loop st' kX e ps a b)
theorem LK.refl(h:Heap):LK h h:=⟨Nat.le_refl _,fun L st cE e ps a b _ hg=>⟨st,cE,hg⟩⟩
theorem LK.trans{h h1 h2:Heap}(x:LK h h1)(y:LK h1 h2):LK h h2:=by
 refine⟨Nat.le_trans x.1 y.1,fun L st cE e ps a b hL hg=>?_⟩;obtain⟨st',kX,hg'⟩:=x.2 L st cE e ps a b hL hg;exact y.2 L st' kX e ps a b (Nat.lt_of_lt_of_le hL x.1) hg'
theorem LK.new(h:Heap)(x:ck):LK h (h.new x):=
 ⟨by simp,fun L st cE e ps a b hL hg=>⟨st,cE,by rw[Heap.bT,if_neg (by omega)];exact hg⟩⟩
theorem LK.set{h:Heap}{b:Nat}{x y:ck}(hb:h.get b=some x)(hx:∀st cE e ps a c,x≠.loop st cE e ps a c):LK h (h.set b y):=by
 refine⟨Nat.le_refl _,fun L st cE e ps a c hL hg=>⟨st,cE,?_⟩⟩;rw[Heap.bx,if_neg]
 ·exact hg
 ·rintro rfl;rw[hb] at hg;cases hg
  exact hx _ _ _ _ _ _ rfl
theorem LK.del{h:Heap}{b:Nat}{x:ck}(hb:h.get b=some x)(hx:∀st cE e ps a c,x≠.loop st cE e ps a c):LK h (h.del b):=by
 refine⟨Nat.le_refl _,fun L st cE e ps a c hL hg=>⟨st,cE,?_⟩⟩;rw[Heap.cL,if_neg]
 ·exact hg
 ·rintro rfl;rw[hb] at hg;cases hg
  exact hx _ _ _ _ _ _ rfl
theorem LK.store{h h':Heap}{b o:Nat}{xs:List AV}(hs:h.di b o xs=some h'):LK h h':=by
 unfold Heap.di at hs;split at hs
 ·rename_i vs es hg;cases hc:(Nat.ble (o+xs.length) vs.length&&bz xs) with
  |false=>simp[hc] at hs
  |true=>
   simp only[hc,cond_true,Option.some.injEq] at hs;subst hs;exact LK.set hg (by simp)
 ·simp at hs
theorem LK.eff{o:xB}{args:List AV}{h h':Heap}{v:AV}(he:eI o args h=some (v,h')):LK h h':=by
 unfold eI at he;split at he
 ·rename_i n b o v;cases hb:Nat.beq v.cells.length n with
  |false=>simp[hb] at he
  |true=>
   simp only[hb,cond_true,Option.map_eq_some_iff,Prod.mk.injEq] at he;obtain⟨h1,hs,_,rfl⟩:=he;exact LK.store hs
 ·rename_i size bytes s x;split at he
  ·simp at he
  ·rename_i n new hsc;cases hf:bz new with
   |false=>simp[hf] at he
   |true=>
    simp only[hf,cond_true] at he;split at he
    ·cases h0:Nat.beq n 0 with
     |true=>
      simp only[h0,cond_true,Option.some.injEq,Prod.mk.injEq] at he;obtain⟨_,rfl⟩:=he;exact LK.refl _
     |false=>
      simp only[h0,cond_false] at he;cases hc:(Nat.ble (n*bytes) 140737488355328&&Nat.ble n 9223372036854775807) with
      |false=>simp[hc] at he
      |true=>
       simp only[hc,cond_true,Option.some.injEq,Prod.mk.injEq] at he;obtain⟨_,rfl⟩:=he;exact LK.new _ _
    ·rename_i b o len cap jS;cases yO:(Nat.beq n 0&&Nat.ble len cap) with
     |true=>
      simp only[yO,cond_true,Option.some.injEq,Prod.mk.injEq] at he;obtain⟨_,rfl⟩:=he;exact LK.refl _
     |false=>
     simp only[yO,cond_false] at he;cases hle:Nat.ble (len+n) cap with
     |true=>
      simp only[hle,cond_true,Option.map_eq_some_iff,Prod.mk.injEq] at he;obtain⟨h1,hs,_,rfl⟩:=he;exact LK.store hs
     |false=>
      simp only[hle,cond_false] at he;cases hc:(Nat.ble ((len+n)*bytes) 140737488355328&&Nat.ble (len+n) 9223372036854775807) with
      |false=>simp[hc] at he
      |true=>
       simp only[hc,cond_true] at he;split at he
       ·rename_i vs wr es old hg hl;cases jS with
        |false=>
         simp only[cond_false,Option.some.injEq,Prod.mk.injEq] at he;obtain⟨_,rfl⟩:=he;exact LK.new _ _
        |true=>
         simp only[cond_true] at he;cases hw:(wr&&Nat.beq vs.length (o+len*size)&&Nat.beq cap len&&Nat.beq es size) with
         |false=>simp[hw] at he
         |true=>
          simp only[hw,cond_true,Option.some.injEq,Prod.mk.injEq] at he;obtain⟨_,rfl⟩:=he;exact(LK.del hg (by simp)).trans (LK.new _ _)
       ·simp at he
    ·cases h0:Nat.beq n 0 with
     |true=>
      simp only[h0,cond_true,Option.some.injEq,Prod.mk.injEq] at he;obtain⟨_,rfl⟩:=he;exact LK.refl _
     |false=>
      simp only[h0,cond_false] at he;cases hc:(Nat.ble (n*bytes) 140737488355328&&Nat.ble n 9223372036854775807) with
      |false=>simp[hc] at he
      |true=>
       simp only[hc,cond_true,Option.some.injEq,Prod.mk.injEq] at he;obtain⟨_,rfl⟩:=he;exact LK.new _ _
    ·simp at he
 ·rename_i size d x;split at he
  ·simp only[Option.some.injEq,Prod.mk.injEq] at he;obtain⟨_,rfl⟩:=he;exact LK.refl _
  ·simp only[Option.some.injEq,Prod.mk.injEq] at he;obtain⟨_,rfl⟩:=he;exact LK.refl _
  ·simp only[Option.map_eq_some_iff,Prod.mk.injEq] at he;obtain⟨h1,hs,_,rfl⟩:=he;exact LK.store hs
  ·simp at he
 ·rename_i iC d;split at he
  ·simp only[Option.some.injEq,Prod.mk.injEq] at he;obtain⟨_,rfl⟩:=he;exact LK.refl _
  ·simp only[Option.map_eq_some_iff,Prod.mk.injEq] at he;obtain⟨h1,hs,_,rfl⟩:=he;exact LK.store hs
  ·simp at he
 ·split at he
  ·rename_i hg;split at he
   ·simp only[Option.some.injEq,Prod.mk.injEq] at he;obtain⟨_,rfl⟩:=he;exact LK.set hg (by simp)
   ·simp at he
  ·simp at he
 ·split at he
  ·simp only[Option.some.injEq,Prod.mk.injEq] at he;obtain⟨_,rfl⟩:=he;exact LK.new _ _
  ·simp at he
 ·split at he
  ·rename_i hg;split at he
   ·obtain⟨_,rfl⟩:=Prod.mk.inj (tO he);exact LK.del hg (by simp)
   ·simp at he
  ·simp at he
 ·split at he
  ·rename_i hg;split at he
   ·simp only[Option.some.injEq,Prod.mk.injEq] at he;obtain⟨_,rfl⟩:=he;exact LK.set hg (by simp)
   ·simp at he
  ·simp at he
 ·simp only[Option.some.injEq,Prod.mk.injEq] at he;obtain⟨_,rfl⟩:=he;exact LK.new _ _
 ·simp at he
def Task.heap:Task→Heap
 |.code _ _ _ h=>h
 |.ops _ _ _ h=>h
 |.op _ _ _ h=>h
 |.cO _ _ h=>h
 |.call _ _ h=>h
 |.any _ _ _ h=>h
def jj.heap:jj→Heap
 |.post _=>⟨0,.nil⟩
 |.code _ _ h=>h
 |.ops _ _ h=>h
 |.val _ h=>h
 |.jT _ h=>h
theorem LK.Zf{o:xB}{args:List AV}{h h':Heap}{v:AV}(he:eK o args h=some (v,h')):LK h h':=by
 unfold eK at he;split at he
 ·split at he
  ·simp at he
  ·split at he
   ·rename_i hg _;have he:=tO he;cases he
    exact(LK.set hg (by simp)).trans (LK.new _ _)
   ·simp at he
 ·simp at he
theorem LK.fT{h g g':Heap}(x:LK g g')(s:ni g h):LK h (nD h g g'):=by
 refine⟨by rw[←s.1];exact x.1,fun L st cE e ps a b hL hg=>?_⟩;have cu:(nD h g g').get L=if(g.get L).isSome=true∨h.next≤L then g'.get L else h.get L:=by
  show(sY h g g' g'.next).get L=_;rw[lJ];have:L<g'.next:=by have:=x.1;have:=s.1;omega
  simp only[this,true_and]
 rw[cu];split
 ·rename_i hc;rcases hc with hc|hc
  ·cases hy:g.get L with
   |none=>rw[hy] at hc;simp at hc
   |some y=>
    have:=s.2 L y hy;rw[hg] at this;cases this
    exact x.2 L st cE e ps a b (by rw[s.1];exact hL) hy
  ·omega
 ·exact⟨st,cE,hg⟩
theorem LK.VG{h g u h2:Heap}(x:LK g u)(s:ni g h)(hn:h2.next=u.next)(h1:∀b,b<h.next→h2.get b=if(g.get b).isSome=true then u.get b else h.get b):LK h h2:=by
 refine⟨by rw[hn,←s.1];exact x.1,fun L st cE e ps a b hL hg=>?_⟩;rw[h1 L hL];split
 ·rename_i hc;cases hy:g.get L with
  |none=>rw[hy] at hc;simp at hc
  |some y=>
   have:=s.2 L y hy;rw[hg] at this;cases this
   exact x.2 L st cE e ps a b (by rw[s.1];exact hL) hy
 ·exact⟨st,cE,hg⟩
theorem LK.forget{h H h2:Heap}(x:LK h H)(s:ni h2 H)(ho:∀b,b<h.next→h.get b≠none→h2.get b=H.get b):LK h h2:=
 ⟨by rw[s.1];exact x.1,fun L st cE e ps a b hL hg=>by rw[ho L hL (by rw[hg];simp)];exact x.2 L st cE e ps a b hL hg⟩
def CF(t:Task)(r:jj):Prop:=match r with
 |.post Q=>∃x e h',Q x e h'∧LK t.heap h'
 |r=>LK t.heap r.heap
theorem CF.of{t t':Task}{r:jj}(x:LK t.heap t'.heap)(k:CF t' r):CF t r:=by
 cases r with
 |post Q=>obtain⟨a,b,c,q,l⟩:=k;exact⟨a,b,c,q,x.trans l⟩
 |_=>exact LK.trans x k
theorem rW{h:Heap}{it m since c:Nat}{seen:List Nat}{p:AV×Heap}:∀{bs:List Nat} {es:List (AV×AV)},p∈sV h it m since seen c bs es→∃x,p.2=h.set it x
 |[],es,hp=>by simp[sV] at hp
 |b::bs,[],hp=>by simp[sV] at hp
 |b::bs,(k,v)::es,hp=>by
  simp only[sV] at hp;cases hb:tY b seen with
  |true=>rw[hb] at hp;exact rW hp
  |false=>
   rw[hb] at hp;rcases List.mem_cons.1 hp with rfl|hp
   ·exact⟨_,rfl⟩
   ·exact rW hp
theorem LK.rm{args:List AV}{h:Heap}{cs:List (AV×Heap)}{p:AV×Heap}(hc:rm args h=some cs)(hp:p∈cs):LK h p.2:=by
 unfold Ads.rm at hc;split at hc
 ·split at hc
  ·rename_i hg;split at hc
   ·have:=tO hc;subst this;obtain⟨x,hx⟩:=rW hp;rw[hx];exact LK.set hg (by simp)
   ·simp at hc
  ·simp at hc
 ·simp at hc
theorem BS.Vn{fs:Nat→Option aq}{ms:Nat→String→Option Nat}{t:Task}{r:jj}(h:BS fs ms t r):CF t r:=by
 induction h with
 |skip=>exact LK.refl _
 |ops _ ih=>exact ih
 |cB _ _ ih=>exact ih
 |xZ _ _ ih1 ih2=>exact CF.of (t':=.code _ _ _ _) ih1 ih2
 |oS _ _ ih=>exact ih
 |cond _ _ ih=>exact CF.of (LK.refl _) ih
 |nT _ ih=>exact ih
 |fJ _ _ ih=>exact ih
 |mg _ _ ih1 ih2=>exact CF.of (t':=.code _ _ _ _) ih1 ih2
 |cU _ _ ih=>exact ih
 |exit=>exact LK.refl _
 |ret=>exact LK.refl _
 |@rangeFunc g ps a b e h f first aF v h2 st x hg hc hl hst hx ih=>
  have h1:=(LK.new h (.loop 0 none e ps a b)).trans ih;refine⟨h1.1,fun L st cE e ps a b hL Pw=>?_⟩;obtain⟨st',kX,hg'⟩:=h1.2 L st cE e ps a b hL Pw;have hL':L<h.next:=hL;exact⟨st',kX,by simp only[jj.heap];rw[Heap.bx,if_neg (by omega)];exact hg'⟩
 |nil=>exact LK.refl _
 |off _ _ ih=>exact ih
 |on _ _ _ ih1 ih2=>exact ih1.trans ih2
 |CE _=>exact LK.refl _
 |Oh _=>exact LK.new _ _
 |tD _=>exact LK.refl _
 |Lz h=>exact LK.eff h
 |VF h=>exact LK.Zf h
 |mj _ ih=>exact ih
 |kF _ _ ih=>exact ih
 |cO _ ih=>exact ih
 |@yield L args h cE e ps a b e2 h2 cr x e4 h4 K1 pX hg hlen BJ By EO hx Tf ih1 ih2=>
  show LK h (h4.set L _);replace ih1:LK h h2:=ih1;replace ih2:LK (h2.set L (.loop 1 cr e ps a b)) h4:=ih2;refine⟨Nat.le_trans ih1.1 ih2.1,fun L0 st0 KA e0 VJ a0 b0 Ui Pv=>?_⟩;by_cases hl:L0=L
  ·subst hl;rw[hg] at Pv;cases Pv
   exact⟨_,_,by rw[Heap.bx,if_pos rfl]⟩
  ·obtain⟨s1,p1,g1⟩:=ih1.2 L0 st0 KA e0 VJ a0 b0 Ui Pv;obtain⟨s2,p2,g2⟩:=ih2.2 L0 s1 p1 e0 VJ a0 b0 (Nat.lt_of_lt_of_le Ui ih1.1) (by rw[Heap.bx,if_neg hl];exact g1);exact⟨s2,p2,by rw[Heap.bx,if_neg hl];exact g2⟩
 |call _ _ _ _ _ ih=>exact ih
 |fresh _ _ _ _=>exact LK.refl _
 |Db hs _ hn h1 _ ih=>exact ih.VG hs hn h1
 |forget hs ho _ ih=>exact ih.forget hs ho
 |j6 _ _ ih=>exact(LK.new _ _).trans ih
 |@qf L args h cE e ps a id A l1 i l2 e2 h2 cr e3 h3 tr e4 h4 v h5 hg hlen BJ m0 By EN hsA hl hw ho ih1 JV ihl uH=>
  replace ih1:LK h h2:=ih1;have ihB:LK (h2.set L (.loop 1 cr e ps a (.block id (.seq A (.ops (l1++i::l2)))))) h5:=LK.trans JV (LK.trans ihl uH);refine⟨Nat.le_trans ih1.1 ihB.1,fun L0 st0 KA e0 VJ a0 b0 Ui Pv=>?_⟩;obtain⟨s1,p1,g1⟩:=ih1.2 L0 st0 KA e0 VJ a0 b0 Ui Pv;have hlt:L0<h2.next:=Nat.lt_of_lt_of_le Ui ih1.1;by_cases hl:L0=L
  ·subst hl;rw[By] at g1;cases g1
   exact ihB.2 L0 _ _ _ _ _ _ hlt (by rw[Heap.bx,if_pos rfl])
  ·exact ihB.2 L0 s1 p1 e0 VJ a0 b0 hlt (by rw[Heap.bx,if_neg hl];exact g1)
 |G1 _ _ _ ih1 ih2=>exact ih1.trans ih2
 |yz _ _ _ _ _ _ ih1 ih2=>exact ih1.trans ih2
 |qC=>exact LK.refl _
 |om _ ih=>exact ih
 |lI _ _ ih=>exact ih
 |oY _ ih=>exact ih
 |vF _ _ _ ih=>exact ih
 |ux _ _ _ _ _ _ _ _ _ _ _ _ _ _ _ _ _ _ _ JV ih1 ih2 _ ih3=>exact((JV.trans ih1).trans ih2).trans ih3
 |Ie _ hq ih=>exact⟨_,_,_,hq,ih⟩
 |@Ig rd a b e h R Q _ hx _ rR nO=>
  obtain⟨x,e1,h1,hr,l⟩:=rR;cases hn:x.bG with
  |false=>exact⟨x,e1,h1,hx _ _ _ hr hn,l⟩
  |true=>
   have:x=.normal:=by cases x<;>simp[AX.bG] at hn;rfl
   subst this;obtain⟨x2,e2,h2,hq,l2⟩:=nO e1 h1 hr;exact⟨x2,e2,h2,hq,LK.trans l l2⟩
 |Eh _ _ ih=>exact ih
 |AS _ hx ih=>
  obtain⟨x,e1,h1,hr,l⟩:=ih;exact⟨_,e1,h1,hx _ _ _ hr,l⟩
 |@Ei rd c e h R Q _ hx _ rR nO=>
  obtain⟨x,e1,h1,hr,l⟩:=rR;cases hn:x.bG with
  |false=>exact⟨x,e1,h1,hx _ _ _ hr hn,l⟩
  |true=>
   have:x=.normal:=by cases x<;>simp[AX.bG] at hn;rfl
   subst this;obtain⟨x2,e2,h2,hq,l2⟩:=nO e1 h1 hr;exact⟨x2,e2,h2,hq,LK.trans l l2⟩
 |@Ej rd dst args l e h cs Q T E H hc hne hl hq ihl=>
  cases cs with
  |nil=>exact absurd rfl hne
  |cons p cs=>exact⟨_,_,_,hq p List.mem_cons_self,LK.trans (LK.rm hc List.mem_cons_self) (ihl p List.mem_cons_self)⟩
 |zE _ _ _ hQ ih=>
  obtain⟨x,e1,h1,hq,l⟩:=ih;obtain⟨_,_,s,ho⟩:=hQ x e1 h1 hq;exact LK.forget l s ho
theorem BS.keep{fs:Nat→Option aq}{ms:Nat→String→Option Nat}{t:Task}{r:jj}(h:BS fs ms t r)(hr:∀Q,r≠.post Q:=by simp):LK t.heap r.heap:=by
 have:=h.Vn;cases r with
 |post Q=>exact absurd rfl (hr Q)
 |_=>exact this
theorem BS.A8{fs:Nat→Option aq}{ms:Nat→String→Option Nat}{f:Nat}{args:List AV}{h:Heap}{r:jj}(hb:BS fs ms (.call f args h) r):(∃v h1,r=.val v h1)∨∃v h1,r=.jT v h1:=by
 cases hb with
 |call _ _ _ _ _=>exact .inl ⟨_,_,rfl⟩
 |fresh _ _ _=>exact .inl ⟨_,_,rfl⟩
 |Db _ _ _ _ _=>exact .inl ⟨_,_,rfl⟩
 |forget _ _ _=>exact .inl ⟨_,_,rfl⟩
 |vF _ _ _=>exact .inr ⟨_,_,rfl⟩
 |zE _ _ _ _=>exact .inl ⟨_,_,rfl⟩
 |ux _ _ _ _ _ _ _ _ _ _ _ _ _ _ _ _ _ _ _=>exact .inl ⟨_,_,rfl⟩
end Ads
end Go.Proofs.YtnlcabhfkpafmaaGreat
set_option linter.unusedSimpArgs false
set_option linter.unusedVariables false
namespace Go.Proofs.YtnlcabhfkpafmaaGreat
namespace Ads
mutual
def AV.same:AV→AV→Bool
 |.bool a,.bool b=>a==b
 |.int k n,.int k' m=>cond (decide (k=k')) (decide (n=m)) false
 |.str s,.str t=>s==t
 |.ptr b o,.ptr b' o'=>Nat.beq b b'&&Nat.beq o o'
 |.bq,.bq=>true
 |.sl b o l c op,.sl b' o' l' c' op'=>Nat.beq b b'&&Nat.beq o o'&&Nat.beq l l'&&Nat.beq c c'&&op==op'
 |.aH,.aH=>true
 |.map b,.map b'=>Nat.beq b b'
 |.jJ,.jJ=>true
 |.func f a c,.func f' a' c'=>decide (f=f')&&wY a a'&&wY c c'
 |.jz,.jz=>true
 |.yield b,.yield b'=>Nat.beq b b'
 |.iface t v,.iface t' v'=>Nat.beq t t'&&v.same v'
 |.jI,.jI=>true
 |.agg cs,.agg cs'=>wY cs cs'
 |.cD cs,.cD cs'=>wY cs cs'
 |.rest b o k,.rest b' o' k'=>Nat.beq b b'&&Nat.beq o o'&&Nat.beq k k'
 |_,_=>false
def wY:List AV→List AV→Bool
 |[],[]=>true
 |v::vs,u::us=>v.same u&&wY vs us
 |_,_=>false
end
mutual
theorem AV.Ay:∀{v u:AV},v.same u=true→v=u:=by
 intro v u h;cases v<;>cases u<;>simp only[AV.same,Bool.and_eq_true,beq_iff_eq,Bool.false_eq_true,decide_eq_true_eq] at h<;>
  first
  |rfl
  |(obtain rfl:=h;rfl)
  |(have:=Nat.eq_of_beq_eq_true h;subst this;rfl)
  |(have h1:=Nat.eq_of_beq_eq_true h.1;have h2:=Nat.eq_of_beq_eq_true h.2;subst h1 h2;rfl)
  |(obtain⟨⟨⟨⟨h1,h2⟩,h3⟩,h4⟩,h5⟩:=h;have:=Nat.eq_of_beq_eq_true h1;have:=Nat.eq_of_beq_eq_true h2;have:=Nat.eq_of_beq_eq_true h3;have:=Nat.eq_of_beq_eq_true h4;subst_vars;rfl)
  |(obtain⟨⟨h1,h2⟩,h3⟩:=h;have:=Nat.eq_of_beq_eq_true h1;have:=Nat.eq_of_beq_eq_true h2;have:=Nat.eq_of_beq_eq_true h3;subst_vars;rfl)
  |(rename_i k n k' m;by_cases hk:k=k'<;>simp[hk] at h;subst hk h;rfl)
  |(rw[tf h])
  |(obtain⟨⟨h1,h2⟩,h3⟩:=h;rw[h1,tf h2,tf h3])
  |(obtain⟨h1,h2⟩:=h;rw[Nat.eq_of_beq_eq_true h1,AV.Ay h2])
theorem tf:∀{v u:List AV},wY v u=true→v=u:=by
 intro v u h;cases v<;>cases u<;>simp only[wY,Bool.and_eq_true,Bool.false_eq_true] at h
 ·rfl
 ·rw[AV.Ay h.1,tf h.2]
end
def p4(u:Nat→Heap):List bu→List (List Nat)→List aJ→Bool
 |x::l,cs::win,m::tr=>cond (match x.op with
   |.r o=>cond m.on (cs.all fun c=>match rI o m.vals (u c) with|some v=>v.same m.v|none=>false) true
   |_=>true) (p4 u l win tr) false
 |_,_,_=>true
theorem oB{u:Nat→Heap}:∀{l:List bu} {win:List (List Nat)} {tr:List aJ},p4 u l win tr=true→cz u l win tr
 |[],_,_,_=>by simp[cz]
 |_::_,[],_,_=>by simp[cz]
 |_::_,_::_,[],_=>by simp[cz]
 |x::l,cs::win,m::tr,h=>by
  simp only[p4] at h;generalize hb:(match x.op with
   |.r o=>cond m.on (cs.all fun c=>match rI o m.vals (u c) with|some v=>v.same m.v|none=>false) true
   |_=>true)=b at h
  cases b with
  |false=>simp at h
  |true=>
   simp only[cond_true] at h;simp only[cz];refine⟨?_,oB h⟩;split
   ·rename_i o ho;intro fI c hc;rw[ho] at hb;simp only[fI,cond_true,List.all_eq_true] at hb;have:=hb c hc;split at this
    ·rename_i v hv;rw[hv,AV.Ay this]
    ·simp at this
   ·trivial
def ej:List bu→Option (List bu×bu)
 |[]=>none
 |[i]=>some ([],i)
 |i::l=>match ej l with
  |some (l1,j)=>some (i::l1,j)
  |none=>none
theorem wo:∀{l l1:List bu} {i:bu},ej l=some (l1,i)→l=l1++[i]
 |[],l1,i,h=>by simp[ej] at h
 |[j],l1,i,h=>by simp only[ej,Option.some.injEq,Prod.mk.injEq] at h;obtain⟨rfl,rfl⟩:=h;rfl
 |j::k::l,l1,i,h=>by
  simp only[ej] at h;split at h
  ·rename_i l2 i2 h2;simp only[Option.some.injEq,Prod.mk.injEq] at h;obtain⟨rfl,rfl⟩:=h;rw[wo (l:=k::l) h2];rfl
  ·simp at h
def AA(c:AC):Option (AC×List bu×Option Nat×Nat×AC):=
 match c with
 |.seq A d=>match d with
  |.seq o rest=>match o with
   |.ops l=>match ej l with
    |some (l1,i)=>match i.op with
     |.bad=>match i with
      |⟨dst,none,.bad,[.c (.bool true),.t a,.t b,.t c]⟩=>cond (Nat.beq a b&&Nat.beq a c) (some (A,l1,dst,a,rest)) none
      |_=>none
     |_=>none
    |none=>none
   |_=>none
  |_=>none
 |_=>none
theorem Hv{c A:AC}{l1:List bu}{dst:Option Nat}{a:Nat}{rest:AC}(h:AA c=some (A,l1,dst,a,rest)):c=.seq A (.seq (.ops (l1++[pe dst (.t a)])) rest):=by
 unfold AA at h;split at h
 ·split at h
  ·split at h
   ·split at h
    ·rename_i hl;split at h
     ·split at h
      ·rename_i ace a2 b2 c2 _;cases hb:(Nat.beq a2 b2&&Nat.beq a2 c2) with
       |false=>rw[hb] at h;simp at h
       |true=>
        rw[hb] at h;simp only[cond_true,Option.some.injEq,Prod.mk.injEq] at h;obtain⟨rfl,rfl,rfl,rfl,rfl⟩:=h;simp only[Bool.and_eq_true] at hb;have h1:=Nat.eq_of_beq_eq_true hb.1;have h2:=Nat.eq_of_beq_eq_true hb.2;subst h1 h2;rw[wo hl];rfl
      ·simp at h
     ·simp at h
    ·simp at h
   ·simp at h
  ·simp at h
 ·simp at h
def DY(c:AC):Option (Nat×List bu×AC):=
 match c with
 |.seq (.ops (⟨some t,none,.bad,[.c (.bool false),.c (.bool false),.c (.bool false),.c (.bool false)]⟩::l2)) eu=>some (t,l2,eu)
 |_=>none
theorem zc{c:AC}{t:Nat}{l2:List bu}{eu:AC}(h:DY c=some (t,l2,eu)):c=.seq (.ops (xY t::l2)) eu:=by
 unfold DY at h;split at h
 ·simp only[Option.some.injEq,Prod.mk.injEq] at h;obtain⟨rfl,rfl,rfl⟩:=h;rfl
 ·simp at h
def Dt{α:Type}:List α→Bool
 |[]=>true
 |_=>false
def JW:AX→Bool
 |.exit _=>false
 |_=>true
abbrev Rec:=Task→(jj→Bool)→Bool
def zU(ev:Rec)(rd:Bool)(l:List bu)(win:List (List Nat))(e:Env)(h:Heap)(k:jj→Bool):Bool:=match ej l with
 |some (l1,i)=>ev (.ops rd l1 e h) fun r=>match r with
  |.ops tr e1 h1=>cond (bN i e1) (cond (p4 (cC l1 tr h1) l1 (win.take l1.length) tr&&oe l&&bP i.op) (ev (.op rd i.op (i.args.map e1.ev) h1) fun r=>match r with
   |.jT v h2=>k (.code (.panic v) e1 h2)
   |_=>false) false) false
  |_=>false
 |none=>false
def vN(ev:Rec)(a b:AC)(e:Env)(h:Heap)(k:jj→Bool):Bool:=match b with
 |.block _ (.seq A (.ops l))=>cond (aX a&&aX A) (ev (.code true A e h) fun r=>match r with
  |.code .normal e1 h1=>ev (.ops true l e1 h1) fun r=>match r with
   |.code (.panic v) _ h2=>k (.jT v h2)
   |_=>false
  |_=>false) false
 |_=>false
def IX(vals:List AV)(h:Heap)(k:jj→Bool):Bool:=match vals with
 |[.iface t x]=>k (.jT (.iface t x) h)
 |_=>false
def QA(fs:Nat→Option aq)(ev:Rec)(d:AC×List bu×Option Nat×Nat×AC)(af:aq)(args:List AV)(h:Heap)(k:jj→Bool):Bool:=match d with
 |(A,l1,dst,a,rest)=>cond (Nat.ble args.length af.ntmps&&aX A) (p8 af.ntmps args fun e0=>ev (.code false A e0 h) fun r=>match r with
  |.code .normal e1 h1=>ev (.ops false l1 e1 h1) fun r=>match r with
   |.ops tr e2 h2=>match e2.ev (.t a) with
    |.func (.func g) first aF=>ev (.code false rest (e2.put dst .undef) h2) fun r=>match r with
     |.code x e3 h3=>cond (JW x) (match fs g with
      |some ag=>match DY ag.body with
       |some (t,l2,eu)=>cond (Nat.ble (first++aF).length ag.ntmps&&Dt ag.results&&aX eu&&mo l2)
        (ev (.ops false l2 ((Env.start ag.ntmps (first++aF)).put (some t) (oC x)) h3) fun r=>match r with
        |.ops D4 e4 h4=>ev (.code false eu e4 h4) fun r=>match r with
         |.code y e5 h5=>match y with
          |.normal|.ret=>match gD e3 h5 af.results with
           |some vs=>k (.val (cX vs) h5)
           |none=>false
          |_=>false
         |_=>false
        |_=>false) false
       |none=>false
      |none=>false) false
     |_=>false
    |_=>false
   |_=>false
  |_=>false) false
abbrev P0:=Nat→List AV→Heap→Option (AV×Heap)
def Kq:P0:=fun _ _ _=>none
def HZ(fs:Nat→Option aq)(ms:Nat→String→Option Nat)(wK:P0):Prop:=∀f args h v h1,wK f args h=some (v,h1)→BS fs ms (.call f args h) (.val v h1)
theorem Kr{fs:Nat→Option aq}{ms:Nat→String→Option Nat}:HZ fs ms Kq:=fun f args h v h1 hh=>by simp[Kq] at hh
section
variable (fs:Nat→Option aq) (ms:Nat→String→Option Nat) (wK:P0)
def ev:Nat→Task→(jj→Bool)→Bool
 |0,_,_=>false
 |n+1,t,k=>match t with
  |.code rd c e h=>match c with
   |.skip=>k (.code .normal e h)
   |.ops l=>ev n (.ops rd l e h) fun r=>match r with
    |.ops tr e' h'=>k (.code .normal e' h')
    |.code (.panic v) e1 h1=>k (.code (.panic v) e1 h1)
    |_=>false
   |.cB l win=>ev n (.ops rd l e h) fun r=>match r with
    |.ops tr e' h'=>cond (p4 (cC l tr h') l win tr) (k (.code .normal e' h')) false
    |.code (.panic _) _ _=>zU (ev n) rd l win e h k
    |_=>false
   |.seq a b=>ev n (.code rd a e h) fun r=>match r with
    |.code .normal e1 h1=>ev n (.code rd b e1 h1) k
    |.code x e1 h1=>k (.code x e1 h1)
    |_=>false
   |.cond c a b=>match e.ev c with
    |.bool t=>ev n (.code rd (cond t a b) e h) k
    |_=>false
   |.block id c=>ev n (.code rd c e h) fun r=>match r with
    |.code (.exit i) e1 h1=>cond (Nat.beq i id) (k (.code .normal e1 h1)) (k (.code (.exit i) e1 h1))
    |.code x e1 h1=>k (.code x e1 h1)
    |_=>false
   |.loop c=>ev n (.code rd c e h) fun r=>match r with
    |.code .normal e1 h1=>ev n (.code rd (.loop c) e1 h1) k
    |.code x e1 h1=>k (.code x e1 h1)
    |_=>false
   |.exit id=>k (.code (.exit id) e h)
   |.ret=>k (.code .ret e h)
   |.rangeFunc g ps a b=>match rd,e.ev g with
    |false,.func (.func f) first aF=>newF h (.loop 0 none e ps a b) fun h1=>ev n (.call f (first++(.yield h.next::aF)) h1) fun r=>match r with
     |.val v h2=>match h2.get h.next with
      |some (.loop st none _ _ _ _)=>cond (Nat.beq st 1) false (lW h2 h.next (.loop 3 none e ps a b) fun h3=>k (.code .normal e h3))
      |some (.loop st (some (.exit id)) _ _ _ _)=>cond (Nat.beq st 1) false (lW h2 h.next (.loop 3 (some (.exit id)) e ps a b) fun h3=>k (.code (.exit id) e h3))
      |some (.loop st (some .ret) _ _ _ _)=>cond (Nat.beq st 1) false (lW h2 h.next (.loop 3 (some .ret) e ps a b) fun h3=>k (.code .ret e h3))
      |_=>false
     |.jT v h2=>k (.code (.panic v) e h2)
     |_=>false
    |_,_=>false
   |.bad=>false
  |.ops rd l e h=>match l with
   |[]=>k (.ops [] e h)
   |i::l=>cond (bN i e)
     (ev n (.op rd i.op (i.args.map e.ev) h) fun r=>match r with
      |.val v h1=>jA e i.dst v fun e1=>ev n (.ops rd l e1 h1) fun r=>match r with
       |.ops tr e' h'=>k (.ops (⟨h,i.args.map e.ev,v,true⟩::tr) e' h')
       |.code (.panic v) e1 h2=>k (.code (.panic v) e1 h2)
       |_=>false
      |.jT v h2=>k (.code (.panic v) e h2)
      |_=>false)
     (jA e i.dst .undef fun e1=>ev n (.ops rd l e1 h) fun r=>match r with
      |.ops tr e' h'=>k (.ops (⟨h,i.args.map e.ev,.undef,false⟩::tr) e' h')
      |.code (.panic v) e1 h2=>k (.code (.panic v) e1 h2)
      |_=>false)
  |.op rd o vals h=>match o with
   |.p o=>match pI o vals with
    |some v=>fV v fun v=>k (.val v h)
    |none=>false
   |.a o=>match aI o vals with
    |some (x,f)=>fV (f h.next) fun v=>newF h x fun h1=>k (.val v h1)
    |none=>false
   |.r o=>match rI o vals h with
    |some v=>fV v fun v=>k (.val v h)
    |none=>false
   |.e o=>TU o vals h fun v h1=>fV v fun v=>k (.val v h1)
   |.call=>match vals with
    |fv::args=>ev n (.cO fv args h) k
    |[]=>false
   |.invoke name=>match vals with
    |.iface t x::args=>match ms t name with
     |some f=>ev n (.call f (x::args) h) k
     |none=>false
    |_=>false
   |.panic=>IX vals h k
   |_=>false
  |.cO fv args h=>match fv with
   |.func (.func f) first aF=>ev n (.call f (first++(args++aF)) h) k
   |.yield L=>match h.get L with
    |some (.loop 0 cE e ps a b)=>cond (Nat.beq args.length ps.length&&Nat.ble (L+1) h.next)
     (ev n (.code true a (fU ps args e) h) fun r=>match r with
      |.code .normal e2 h2=>match h2.get L with
       |some (.loop 0 cr _ _ _ _)=>lW h2 L (.loop 1 cr e ps a b) fun h3=>ev n (.code true b e2 h3) fun r=>match r with
        |.code (.panic _) _ _=>vN (ev n) a b e2 h3 k
        |.code x e4 h4=>lW h4 L (.loop (cond x.bG 0 2) (dB x) e ps a b) fun h5=>k (.val (.bool x.bG) h5)
        |_=>false
       |_=>false
      |_=>false) false
    |_=>false
   |_=>false
  |.call f args h=>match wK f args h with
   |some (v,h1)=>k (.val v h1)
   |none=>match fs f with
   |some af=>match AA af.body with
    |none=>cond (Nat.ble args.length af.ntmps) (p8 af.ntmps args fun e0=>ev n (.code false af.body e0 h) fun r=>match r with
     |.code x e h1=>match x with
      |.normal|.ret=>match gD e h1 af.results with
       |some vs=>fV (cX vs) fun v=>k (.val v h1)
       |none=>false
      |.panic v=>k (.jT v h1)
      |_=>false
     |_=>false) false
    |some d=>QA fs (ev n) d af args h k
   |none=>false
  |.any ..=>false
end
section
variable {fs:Nat→Option aq} {ms:Nat→String→Option Nat} {wK:P0}
theorem ou:∀{l:List bu} {rd:Bool} {e:Env} {h:Heap} {tr:List aJ} {e':Env} {h':Heap},mo l=true→BS fs ms (.ops rd l e h) (.ops tr e' h')→h'=h
 |[],rd,e,h,tr,e',h',_,hb=>by cases hb;rfl
 |i::l,rd,e,h,tr,e',h',hp,hb=>by
  simp only[mo,Bool.and_eq_true] at hp;cases hb with
  |off hw hl=>exact ou hp.2 hl
  |on hw ho hl=>
   obtain⟨d,gd,op,as⟩:=i;cases op<;>cases gd<;>simp at hp
   cases ho
   exact ou hp hl
def XV(fs:Nat→Option aq)(ms:Nat→String→Option Nat)(t:Task)(r:jj):Prop:=match t with
 |.ops rd l e h=>match r with
  |.ops tr e' h'=>BS fs ms (.ops rd l e h) (.ops tr e' h')
  |.code (.panic v) e1 h2=>∃l1 i l2 tr h1,l=l1++i::l2∧BS fs ms (.ops rd l1 e h) (.ops tr e1 h1)∧bN i e1=true∧BS fs ms (.op rd i.op (i.args.map e1.ev) h1) (.jT v h2)
  |_=>False
 |t=>BS fs ms t r
theorem nv(ho:HZ fs ms wK):∀(n:Nat) (t:Task) (k:jj→Bool),ev fs ms wK n t k=true→∃r,XV fs ms t r∧k r=true
 |0,t,k,h=>by simp[ev] at h
 |n+1,t,k,h=>by
  have uH:∀rd l e hp k,ev fs ms wK n (.ops rd l e hp) k=true→∃r,XV fs ms (.ops rd l e hp) r∧k r=true:=fun rd l e hp k=>nv ho n _ k;have mF:∀rd c e hp k,ev fs ms wK n (.code rd c e hp) k=true→∃r,BS fs ms (.code rd c e hp) r∧k r=true:=fun rd c e hp k=>nv ho n _ k;have Xw:∀rd o vals hp k,ev fs ms wK n (.op rd o vals hp) k=true→∃r,BS fs ms (.op rd o vals hp) r∧k r=true:=fun rd o vals hp k=>nv ho n _ k;have ihv:∀fv args hp k,ev fs ms wK n (.cO fv args hp) k=true→∃r,BS fs ms (.cO fv args hp) r∧k r=true:=fun fv args hp k=>nv ho n _ k;have Vf:∀f args hp k,ev fs ms wK n (.call f args hp) k=true→∃r,BS fs ms (.call f args hp) r∧k r=true:=fun f args hp k=>nv ho n _ k;unfold ev at h;split at h
  ·rename_i rd c e hp;show∃r,BS fs ms (.code rd c e hp) r∧k r=true;split at h
   ·exact⟨_,.skip,h⟩
   ·obtain⟨r,hr,hk⟩:=uH _ _ _ _ _ h;split at hk
    ·exact⟨_,.ops hr,hk⟩
    ·obtain⟨l1,i,l2,tr,h1,rfl,g1,g2,g3⟩:=hr;exact⟨_,.G1 g1 g2 g3,hk⟩
    ·simp at hk
   ·rename_i l win;obtain⟨r,hr,hk⟩:=uH _ _ _ _ _ h;split at hk
    ·rename_i tr e' h';cases hb:p4 (cC l tr h') l win tr with
     |false=>simp[hb] at hk
     |true=>rw[hb] at hk;exact⟨_,.cB hr (oB hb),hk⟩
    ·unfold zU at hk;split at hk
     ·rename_i l1 i hl;have:=wo hl;subst this;obtain⟨r2,AK,hk2⟩:=uH _ _ _ _ _ hk;split at hk2
      ·rename_i tr e1 h1;cases hw:bN i e1 with
       |false=>rw[hw] at hk2;simp at hk2
       |true=>
        rw[hw] at hk2;simp only[cond_true] at hk2;cases hb:(p4 (cC l1 tr h1) l1 (win.take l1.length) tr&&oe (l1++[i])&&bP i.op) with
        |false=>rw[hb] at hk2;simp at hk2
        |true=>
         rw[hb] at hk2;simp only[cond_true] at hk2;simp only[Bool.and_eq_true] at hb;obtain⟨r3,Xq,nN⟩:=Xw _ _ _ _ _ hk2;split at nN
         ·exact⟨_,.yz AK (oB hb.1.1) hb.1.2 hb.2 hw Xq,nN⟩
         ·simp at nN
      ·simp at hk2
     ·simp at hk
    ·simp at hk
   ·obtain⟨r,hr,hk⟩:=mF _ _ _ _ _ h;split at hk
    ·obtain⟨r',hr',hk'⟩:=mF _ _ _ _ _ hk;exact⟨_,.xZ hr hr',hk'⟩
    ·rename_i x e1 h1 hne;refine⟨_,.oS hr ?_,hk⟩;cases x<;>simp_all[AX.bG]
    ·simp at hk
   ·split at h
    ·rename_i t ht;obtain⟨r,hr,hk⟩:=mF _ _ _ _ _ h;exact⟨_,.cond ht hr,hk⟩
    ·simp at h
   ·rename_i id c;obtain⟨r,hr,hk⟩:=mF _ _ _ _ _ h;split at hk
    ·rename_i i e1 h1;cases hb:Nat.beq i id with
     |true=>
      rw[hb] at hk;have:=Nat.eq_of_beq_eq_true hb;subst this;exact⟨_,.nT hr,hk⟩
     |false=>
      rw[hb] at hk;refine⟨_,.fJ hr ?_,hk⟩;intro j hj hji;simp only[AX.exit.injEq] at hj;subst hj hji;simp at hb
    ·rename_i x e1 h1 hne;exact⟨_,.fJ hr (fun i hi=>absurd hi (by intro hc;exact hne i hc)),hk⟩
    ·simp at hk
   ·obtain⟨r,hr,hk⟩:=mF _ _ _ _ _ h;split at hk
    ·obtain⟨r',hr',hk'⟩:=mF _ _ _ _ _ hk;exact⟨_,.mg hr hr',hk'⟩
    ·rename_i x e1 h1 hne;refine⟨_,.cU hr ?_,hk⟩;cases x<;>simp_all[AX.bG]
    ·simp at hk
   ·exact⟨_,.exit,h⟩
   ·exact⟨_,.ret,h⟩
   ·rename_i g ps a b;split at h
    ·rename_i f first aF hg
     rw[qA] at h;obtain⟨r,hr,hk⟩:=Vf _ _ _ _ h;split at hk
     ·rename_i v h2;have hkeep:=hr.keep.2 hp.next 0 none e ps a b (by simp[Task.heap]) (by simp[Task.heap,Heap.bT]);obtain⟨st',kX,cu⟩:=hkeep;simp only[jj.heap] at cu;rw[cu] at hk;have hst:∀{x:Bool},cond (Nat.beq st' 1) false x=true→st'≠1∧x=true:=by
       intro x hx;cases hb:Nat.beq st' 1 with
       |true=>rw[hb] at hx;simp at hx
       |false=>rw[hb] at hx;exact⟨by(rintro rfl;simp at hb),hx⟩
      split at hk
      ·rename_i heq;simp only[Option.some.injEq,ck.loop.injEq] at heq;obtain⟨rfl,rfl,_⟩:=heq;obtain⟨h1,q6⟩:=hst hk;rw[kz] at q6;exact⟨_,.rangeFunc (x:=.normal) hg hr cu h1 (by simp),q6⟩
      ·rename_i heq;simp only[Option.some.injEq,ck.loop.injEq] at heq;obtain⟨rfl,rfl,_⟩:=heq;obtain⟨h1,q6⟩:=hst hk;rw[kz] at q6;exact⟨_,.rangeFunc (x:=.exit _) hg hr cu h1 (by simp),q6⟩
      ·rename_i heq;simp only[Option.some.injEq,ck.loop.injEq] at heq;obtain⟨rfl,rfl,_⟩:=heq;obtain⟨h1,q6⟩:=hst hk;rw[kz] at q6;exact⟨_,.rangeFunc (x:=.ret) hg hr cu h1 (by simp),q6⟩
      ·simp at hk
     ·exact⟨_,.j6 hg hr,hk⟩
     ·simp at hk
    ·simp at h
   ·simp at h
  ·rename_i rd l e hp;show∃r,XV fs ms (.ops rd l e hp) r∧k r=true;split at h
   ·exact⟨.ops [] e hp,(.nil:BS fs ms (.ops rd [] e hp) (.ops [] e hp)),h⟩
   ·rename_i i l;cases hw:bN i e with
    |true=>
     rw[hw] at h;obtain⟨r,hr,hk⟩:=Xw _ _ _ _ _ h;split at hk
     ·rw[ki] at hk;obtain⟨r',hr',hk'⟩:=uH _ _ _ _ _ hk;split at hk'
      ·rename_i tr e' h';exact⟨.ops _ e' h',(.on hw hr hr':BS fs ms (.ops rd (i::l) e hp) (.ops _ e' h')),hk'⟩
      ·rename_i v e1 h2;obtain⟨l1,j,l2,tr,h1,rfl,g1,g2,g3⟩:=hr';exact⟨.code (.panic v) e1 h2,⟨i::l1,j,l2,_,h1,rfl,.on hw hr g1,g2,g3⟩,hk'⟩
      ·simp at hk'
     ·rename_i v h2;exact⟨.code (.panic v) e h2,⟨[],i,l,[],hp,rfl,.nil,hw,hr⟩,hk⟩
     ·simp at hk
    |false=>
     rw[hw] at h;simp only[cond_false,ki] at h;obtain⟨r,hr,hk⟩:=uH _ _ _ _ _ h;split at hk
     ·rename_i tr e' h';exact⟨.ops _ e' h',(.off hw hr:BS fs ms (.ops rd (i::l) e hp) (.ops _ e' h')),hk⟩
     ·rename_i v e1 h2;obtain⟨l1,j,l2,tr,h1,rfl,g1,g2,g3⟩:=hr;exact⟨.code (.panic v) e1 h2,⟨i::l1,j,l2,_,h1,rfl,.off hw g1,g2,g3⟩,hk⟩
     ·simp at hk
  ·rename_i rd o vals hp;show∃r,BS fs ms (.op rd o vals hp) r∧k r=true;split at h
   ·split at h
    ·rename_i v hv;rw[yD] at h;exact⟨_,.CE hv,h⟩
    ·simp at h
   ·split at h
    ·rename_i x f hv;rw[yD,qA] at h;exact⟨_,.Oh hv,h⟩
    ·simp at h
   ·split at h
    ·rename_i v hv;rw[yD] at h;exact⟨_,.tD hv,h⟩
    ·simp at h
   ·obtain⟨v,h1,hv,hk⟩:=Gk h;rw[yD] at hk;exact⟨_,.Lz hv,hk⟩
   ·split at h
    ·obtain⟨r,hr,hk⟩:=ihv _ _ _ _ h;cases hr with
     |cO hc=>exact⟨_,.mj (.cO hc),hk⟩
     |oY hc=>exact⟨_,.om (.oY hc),hk⟩
     |yield h1 h2 h3 h4 h5 h6 h7=>exact⟨_,.mj (.yield h1 h2 h3 h4 h5 h6 h7),hk⟩
     |qf h1 h2 h3 h4 h5 h6 h7 h8 h9 QL=>exact⟨_,.om (.qf h1 h2 h3 h4 h5 h6 h7 h8 h9 QL),hk⟩
    ·simp at h
   ·split at h
    ·split at h
     ·rename_i f hf;obtain⟨r,hr,hk⟩:=Vf _ _ _ _ h;rcases hr.A8 with⟨v,h1,rfl⟩|⟨v,h1,rfl⟩
      ·exact⟨_,.kF hf hr,hk⟩
      ·exact⟨_,.lI hf hr,hk⟩
     ·simp at h
    ·simp at h
   ·unfold IX at h;split at h
    ·exact⟨_,.qC,h⟩
    ·simp at h
   ·simp at h
  ·rename_i fv args hp;show∃r,BS fs ms (.cO fv args hp) r∧k r=true;split at h
   ·obtain⟨r,hr,hk⟩:=Vf _ _ _ _ h;rcases hr.A8 with⟨v,h1,rfl⟩|⟨v,h1,rfl⟩
    ·exact⟨_,.cO hr,hk⟩
    ·exact⟨_,.oY hr,hk⟩
   ·rename_i L;split at h
    ·rename_i cE e ps a b hg;cases hc:(Nat.beq args.length ps.length&&Nat.ble (L+1) hp.next) with
     |false=>rw[hc] at h;simp at h
     |true=>
      rw[hc] at h;simp only[cond_true] at h;simp only[Bool.and_eq_true] at hc;have hlen:=Nat.eq_of_beq_eq_true hc.1;have hL:L<hp.next:=Nat.le_of_ble_eq_true hc.2;obtain⟨r,hr,hk⟩:=mF _ _ _ _ _ h;split at hk
      ·rename_i e2 h2;obtain⟨st',kX,cu⟩:=hr.keep.2 L 0 cE e ps a b hL hg;simp only[jj.heap] at cu;rw[cu] at hk;split at hk
       ·rename_i heq;simp only[Option.some.injEq,ck.loop.injEq] at heq;obtain⟨rfl,rfl,_⟩:=heq;rw[kz] at hk;obtain⟨r',hr',hk'⟩:=mF _ _ _ _ _ hk;have QN:L<h2.next:=Nat.lt_of_lt_of_le hL hr.keep.1;split at hk'
        ·unfold vN at hk';split at hk'
         ·rename_i id A l hbx;cases hn:(aX a&&aX A) with
          |false=>rw[hn] at hk';simp at hk'
          |true=>
           rw[hn] at hk';simp only[cond_true] at hk';simp only[Bool.and_eq_true] at hn;obtain⟨rA,hrA,ZY⟩:=mF _ _ _ _ _ hk';split at ZY
           ·obtain⟨rl,hrl,Pz⟩:=uH _ _ _ _ _ ZY;split at Pz
            ·obtain⟨l1,i,l2,tr,vg,rfl,g1,g2,g3⟩:=hrl;exact⟨_,.qf hg hlen hr hn.1 cu hn.2 hrA g1 g2 g3,Pz⟩
            ·simp at Pz
           ·simp at ZY
         ·simp at hk'
        ·rename_i x e4 h4 hnp;obtain⟨K1,pX,UH⟩:=hr'.keep.2 L 1 kX e ps a b QN (by simp[Task.heap,Heap.bx]);rw[kz] at hk';exact⟨_,.yield hg hlen hr cu hr' (fun v hv=>hnp v hv) UH,hk'⟩
        ·simp at hk'
       ·simp at hk
      ·simp at hk
    ·simp at h
   ·simp at h
  ·rename_i f args hp;show∃r,BS fs ms (.call f args hp) r∧k r=true;split at h
   ·rename_i v h1 Rk;exact⟨_,ho _ _ _ _ _ Rk,h⟩
   split at h
   ·rename_i af Um;split at h
    ·cases hl:Nat.ble args.length af.ntmps with
     |false=>rw[hl] at h;simp at h
     |true=>
      rw[hl] at h;simp only[cond_true,nH] at h;obtain⟨r,hr,hk⟩:=mF _ _ _ _ _ h;split at hk
      ·split at hk
       ·split at hk
        ·rename_i vs hvs;rw[yD] at hk;exact⟨_,.call Um (Nat.le_of_ble_eq_true hl) hr (.inl rfl) hvs,hk⟩
        ·simp at hk
       ·split at hk
        ·rename_i vs hvs;rw[yD] at hk;exact⟨_,.call Um (Nat.le_of_ble_eq_true hl) hr (.inr rfl) hvs,hk⟩
        ·simp at hk
       ·exact⟨_,.vF Um (Nat.le_of_ble_eq_true hl) hr,hk⟩
       ·simp at hk
      ·simp at hk
    ·rename_i d hd;obtain⟨A,l1,dst,a,rest⟩:=d;have hbody:=Hv hd;unfold QA at h;simp only at h;cases hl:(Nat.ble args.length af.ntmps&&aX A) with
     |false=>rw[hl] at h;simp at h
     |true=>
      rw[hl] at h;simp only[cond_true,nH] at h;simp only[Bool.and_eq_true] at hl;obtain⟨r1,AJ,xQ⟩:=mF _ _ _ _ _ h;split at xQ
      ·obtain⟨r2,AK,hk2⟩:=uH _ _ _ _ _ xQ;split at hk2
       ·rename_i tr e2 h2;split at hk2
        ·rename_i g first aF yL
         obtain⟨r3,Xq,nN⟩:=mF _ _ _ _ _ hk2;split at nN
         ·rename_i x e3 h3;cases hx:JW x with
          |false=>rw[hx] at nN;simp at nN
          |true=>
           rw[hx] at nN;simp only[cond_true] at nN;split at nN
           ·rename_i ag gG;split at nN
            ·rename_i t l2 eu hsr;cases hc:(Nat.ble (first++aF).length ag.ntmps&&Dt ag.results&&aX eu&&mo l2) with
             |false=>rw[hc] at nN;simp at nN
             |true=>
              rw[hc] at nN;simp only[cond_true] at nN;simp only[Bool.and_eq_true] at hc;obtain⟨r4,NI,Q6⟩:=uH _ _ _ _ _ nN;split at Q6
              ·rename_i D4 e4 h4;have hh:=ou hc.2 NI;subst hh;obtain⟨r5,hr5,Lq⟩:=mF _ _ _ _ _ Q6;have Vb:x=.normal∨x=.ret∨∃v,x=.panic v:=by
                cases x with
                |normal=>exact .inl rfl
                |ret=>exact .inr (.inl rfl)
                |panic v=>exact .inr (.inr ⟨v,rfl⟩)
                |exit id=>simp[JW] at hx
               have GH:ag.results=[]:=by
                have:=hc.1.1.2;cases Dp:ag.results with
                |nil=>rfl
                |cons _ _=>rw[Dp] at this;simp[Dt] at this
               split at Lq
               ·rename_i y e5 h5;split at Lq
                ·split at Lq
                 ·rename_i vs hvs;exact⟨_,.ux Um (Nat.le_of_ble_eq_true hl.1) hbody AJ hl.2 AK yL Xq Vb gG (Nat.le_of_ble_eq_true hc.1.1.1) (zc hsr) GH hc.1.2 NI hc.2 hr5 (.inl rfl) hvs,Lq⟩
                 ·simp at Lq
                ·split at Lq
                 ·rename_i vs hvs;exact⟨_,.ux Um (Nat.le_of_ble_eq_true hl.1) hbody AJ hl.2 AK yL Xq Vb gG (Nat.le_of_ble_eq_true hc.1.1.1) (zc hsr) GH hc.1.2 NI hc.2 hr5 (.inr rfl) hvs,Lq⟩
                 ·simp at Lq
                ·simp at Lq
               ·simp at Lq
              ·simp at Q6
            ·simp at nN
           ·simp at nN
         ·simp at nN
        ·simp at hk2
       ·simp at hk2
      ·simp at xQ
   ·simp at h
  ·simp at h
end
end Ads
end Go.Proofs.YtnlcabhfkpafmaaGreat
set_option linter.unusedSimpArgs false
set_option linter.unusedVariables false
namespace Go.Proofs.YtnlcabhfkpafmaaGreat
namespace Ads
def WZ(o:SK)(args:List AV):Option (ck×(Nat→AV)):=
 match o with
 |.alloc iC=>match args with
  |[]=>some (.cells iC true 0,fun b=>.ptr b 0)
  |_=>none
 |.box=>l1 args fun v=>some (.cells v.cells true 0,fun b=>.ptr b 0)
 |o=>aI o args
theorem CI(o:SK)(args:List AV):WZ o args=aI o args:=by
 cases o
 case alloc z=>cases args<;>rfl
 case box=>rcases args with _|⟨x,_|⟨y,r⟩⟩<;>rfl
 all_goals rfl
def rIF(o:Cy)(args:List AV)(h:Heap):Option AV:=
 match o with
 |.bY=>l1 args fun x=>Be x fun b o=>h.bY b o
 |.bf n=>l1 args fun x=>Be x fun b o=>(h.bf b o n).map .agg
 |o=>rI o args h
theorem Sq(o:Cy)(args:List AV)(h:Heap):rIF o args h=rI o args h:=by
 cases o
 case bY=>rcases args with _|⟨x,_|⟨y,r⟩⟩<;>first|rfl|(cases x<;>rfl)
 case bf n=>rcases args with _|⟨x,_|⟨y,r⟩⟩<;>first|rfl|(cases x<;>rfl)
 all_goals rfl
def Nn(n:Nat)(args:List AV)(h:Heap)(k:AV→Heap→Bool):Bool:=
 match args with
 |[x,v]=>match x with
  |.ptr b o=>cond (Nat.beq v.cells.length n) (si h b o v.cells fun h=>k .undef h) false
  |_=>false
 |_=>false
def eIG(o:xB)(args:List AV)(h:Heap)(k:AV→Heap→Bool):Bool:=
 match o with
 |.store n=>Nn n args h k
 |o=>TU o args h k
theorem Qs(o:xB)(args:List AV)(h:Heap)(k:AV→Heap→Bool):eIG o args h k=TU o args h k:=by
 cases o
 case store n=>rcases args with _|⟨x,_|⟨y,_|⟨z,r⟩⟩⟩<;>first|rfl|(cases x<;>rfl)
 all_goals rfl
def aaC(k:jj→Bool)(r:jj):Bool:=match r with
 |.ops tr e' h'=>k (.code .normal e' h')
 |.code (.panic v) e1 h1=>k (.code (.panic v) e1 h1)
 |_=>false
def Vj(ev:Rec)(rd:Bool)(l:List bu)(win:List (List Nat))(e:Env)(h:Heap)(k:jj→Bool)(r:jj):Bool:=match r with
 |.ops tr e' h'=>cond (p4 (cC l tr h') l win tr) (k (.code .normal e' h')) false
 |.code (.panic _) _ _=>zU ev rd l win e h k
 |_=>false
def Vl(ev:Rec)(rd:Bool)(b:AC)(k:jj→Bool)(r:jj):Bool:=match r with
 |.code .normal e1 h1=>ev (.code rd b e1 h1) k
 |.code x e1 h1=>k (.code x e1 h1)
 |_=>false
def RV(id:Nat)(k:jj→Bool)(r:jj):Bool:=match r with
 |.code (.exit i) e1 h1=>cond (Nat.beq i id) (k (.code .normal e1 h1)) (k (.code (.exit i) e1 h1))
 |.code x e1 h1=>k (.code x e1 h1)
 |_=>false
def RW(e:Env)(ps:List Nat)(a b:AC)(L:Nat)(k:jj→Bool)(r:jj):Bool:=match r with
 |.val v h2=>match h2.get L with
  |some (.loop st none _ _ _ _)=>cond (Nat.beq st 1) false (lW h2 L (.loop 3 none e ps a b) fun h3=>k (.code .normal e h3))
  |some (.loop st (some (.exit id)) _ _ _ _)=>cond (Nat.beq st 1) false (lW h2 L (.loop 3 (some (.exit id)) e ps a b) fun h3=>k (.code (.exit id) e h3))
  |some (.loop st (some .ret) _ _ _ _)=>cond (Nat.beq st 1) false (lW h2 L (.loop 3 (some .ret) e ps a b) fun h3=>k (.code .ret e h3))
  |_=>false
 |.jT v h2=>k (.code (.panic v) e h2)
 |_=>false
def Nm(ev:Rec)(rd:Bool)(g:bE)(ps:List Nat)(a b:AC)(e:Env)(h:Heap)(k:jj→Bool):Bool:=match rd,e.ev g with
 |false,.func (.func f) first aF=>newF h (.loop 0 none e ps a b) fun h1=>ev (.call f (first++(.yield h.next::aF)) h1) (RW e ps a b h.next k)
 |_,_=>false
def Qz(ev:Rec)(rd:Bool)(v:AV)(a b:AC)(e:Env)(h:Heap)(k:jj→Bool):Bool:=match v with
 |.bool t=>ev (.code rd (cond t a b) e h) k
 |_=>false
def Qy(ev:Rec)(rd:Bool)(c:AC)(e:Env)(h:Heap)(k:jj→Bool):Bool:=match c with
 |.skip=>k (.code .normal e h)
 |.ops l=>ev (.ops rd l e h) (aaC k)
 |.cB l win=>ev (.ops rd l e h) (Vj ev rd l win e h k)
 |.seq a b=>ev (.code rd a e h) (Vl ev rd b k)
 |.cond c a b=>Qz ev rd (e.ev c) a b e h k
 |.block id c=>ev (.code rd c e h) (RV id k)
 |.loop c=>ev (.code rd c e h) (Vl ev rd (.loop c) k)
 |.exit id=>k (.code (.exit id) e h)
 |.ret=>k (.code .ret e h)
 |.rangeFunc g ps a b=>Nm ev rd g ps a b e h k
 |.bad=>false
def PG(h:Heap)(vals:List AV)(v:AV)(on:Bool)(k:jj→Bool)(r:jj):Bool:=match r with
 |.ops tr e' h'=>k (.ops (⟨h,vals,v,on⟩::tr) e' h')
 |.code (.panic v) e1 h2=>k (.code (.panic v) e1 h2)
 |_=>false
def aaD(ev:Rec)(rd:Bool)(i:bu)(l:List bu)(e:Env)(h:Heap)(k:jj→Bool)(r:jj):Bool:=match r with
 |.val v h1=>jA e i.dst v fun e1=>ev (.ops rd l e1 h1) (PG h (i.args.map e.ev) v true k)
 |.jT v h2=>k (.code (.panic v) e h2)
 |_=>false
def TZ(ev:Rec)(rd:Bool)(l:List bu)(e:Env)(h:Heap)(k:jj→Bool):Bool:=match l with
 |[]=>k (.ops [] e h)
 |i::l=>cond (bN i e) (ev (.op rd i.op (i.args.map e.ev) h) (aaD ev rd i l e h k))
   (jA e i.dst .undef fun e1=>ev (.ops rd l e1 h) (PG h (i.args.map e.ev) .undef false k))
def Vm(h:Heap)(k:jj→Bool)(o:Option AV):Bool:=match o with
 |some v=>fV v fun v=>k (.val v h)
 |none=>false
def Vk(h:Heap)(k:jj→Bool)(o:Option (ck×(Nat→AV))):Bool:=match o with
 |some (x,f)=>fV (f h.next) fun v=>newF h x fun h1=>k (.val v h1)
 |none=>false
def Nj(ev:Rec)(vals:List AV)(h:Heap)(k:jj→Bool):Bool:=match vals with
 |fv::args=>ev (.cO fv args h) k
 |[]=>false
section
variable (fs:Nat→Option aq) (ms:Nat→String→Option Nat) (wK:P0)
def TY(ev:Rec)(name:String)(vals:List AV)(h:Heap)(k:jj→Bool):Bool:=match vals with
 |.iface t x::args=>match ms t name with
  |some f=>ev (.call f (x::args) h) k
  |none=>false
 |_=>false
def IW(ev:Rec)(o:fZ)(vals:List AV)(h:Heap)(k:jj→Bool):Bool:=match o with
 |.p o=>Vm h k (Ok o vals)
 |.a o=>Vk h k (WZ o vals)
 |.r o=>Vm h k (rIF o vals h)
 |.e o=>eIG o vals h fun v h1=>fV v fun v=>k (.val v h1)
 |.call=>Nj ev vals h k
 |.invoke name=>TY ms ev name vals h k
 |.panic=>IX vals h k
 |_=>false
def N0(ev:Rec)(e2:Env)(h3:Heap)(h:Heap)(L:Nat)(e:Env)(ps:List Nat)(a b:AC)(k:jj→Bool)(r:jj):Bool:=match r with
 |.code (.panic _) _ _=>vN ev a b e2 h3 k
 |.code x e4 h4=>lW h4 L (.loop (cond x.bG 0 2) (dB x) e ps a b) fun h5=>k (.val (.bool x.bG) h5)
 |_=>false
def NZ(ev:Rec)(h:Heap)(L:Nat)(e:Env)(ps:List Nat)(a b:AC)(k:jj→Bool)(r:jj):Bool:=match r with
 |.code .normal e2 h2=>match h2.get L with
  |some (.loop 0 cr _ _ _ _)=>lW h2 L (.loop 1 cr e ps a b) fun h3=>ev (.code true b e2 h3) (N0 ev e2 h3 h L e ps a b k)
  |_=>false
 |_=>false
def No(ev:Rec)(L:Nat)(args:List AV)(h:Heap)(k:jj→Bool):Bool:=match h.get L with
 |some (.loop 0 cE e ps a b)=>cond (Nat.beq args.length ps.length&&Nat.ble (L+1) h.next)
   (ev (.code true a (fU ps args e) h) (NZ ev h L e ps a b k)) false
 |_=>false
def Nl(ev:Rec)(fv:AV)(args:List AV)(h:Heap)(k:jj→Bool):Bool:=match fv with
 |.func (.func f) first aF=>ev (.call f (first++(args++aF)) h) k
 |.yield L=>No ev L args h k
 |_=>false
def aaE(rs:List rB)(e:Env)(h:Heap)(k:jj→Bool):Bool:=match gD e h rs with
 |some vs=>fV (cX vs) fun v=>k (.val v h)
 |none=>false
def aaB(rs:List rB)(k:jj→Bool)(r:jj):Bool:=match r with
 |.code x e h1=>match x with
  |.normal|.ret=>aaE rs e h1 k
  |.panic v=>k (.jT v h1)
  |_=>false
 |_=>false
def Qx(ev:Rec)(af:aq)(args:List AV)(h:Heap)(k:jj→Bool):Bool:=
 cond (Nat.ble args.length af.ntmps) (p8 af.ntmps args fun e0=>ev (.code false af.body e0 h) (aaB af.results k)) false
def T0{β:Type}:Tr β→(Tr β→Bool)→Bool
 |.nil,k=>k .nil
 |.node l v r,k=>T0 l fun l=>T0 r fun r=>match v with
  |none=>k (.node l none r)
  |some x=>k (.node l (some x) r)
theorem C2{β:Type}:∀(t:Tr β) (k:Tr β→Bool),T0 t k=k t
 |.nil,k=>rfl
 |.node l v r,k=>by
  simp only[T0];rw[C2 l,C2 r];cases v<;>rfl
def Zh(h:Heap)(k:Heap→Bool):Bool:=match h with
 |⟨n,m⟩=>pz n fun n=>T0 m fun m=>k ⟨n,m⟩
theorem QB(h:Heap)(k:Heap→Bool):Zh h k=k h:=by cases h;simp only[Zh,vf,C2]
def Nk(ev:Rec)(f:Nat)(args:List AV)(h:Heap)(k:jj→Bool):Bool:=match fs f with
 |some af=>match AA af.body with
  |none=>Qx ev af args h k
  |some d=>QA fs ev d af args h k
 |none=>false
def IT(ev:Rec)(f:Nat)(args:List AV)(h:Heap)(k:jj→Bool):Bool:=match wK f args h with
 |some (v,h1)=>Zh h1 fun h1=>k (.val v h1)
 |none=>Nk fs ev f args h k
def tS(ev:Rec)(t:Task)(k:jj→Bool):Bool:=match t with
 |.code rd c e h=>Qy ev rd c e h k
 |.ops rd l e h=>TZ ev rd l e h k
 |.op rd o vals h=>IW ms ev o vals h k
 |.cO fv args h=>Nl ev fv args h k
 |.call f args h=>IT fs wK ev f args h k
 |.any ..=>false
def TX:Nat→Rec
 |0=>fun _ _=>false
 |n+1=>fun t k=>tS fs ms wK (TX n) t k
theorem IU:∀n,TX fs ms wK n=ev fs ms wK n
 |0=>by funext t k;rfl
 |n+1=>by
  funext t k
  simp only[TX,IU n];cases t with
  |code rd c e h=>
   cases c<;>rfl
  |ops rd l e h=>cases l<;>rfl
  |op rd o vals h=>
   cases o
   case p o=>simp only[tS,IW,DI];rfl
   case a o=>simp only[tS,IW,CI];rfl
   case r o=>simp only[tS,IW,Sq];rfl
   case e o=>simp only[tS,IW,Qs];rfl
   all_goals rfl
  |cO fv args h=>cases fv<;>rfl
  |call f args h=>
   simp only[tS,IT,QB];rfl
  |any rd c e h=>rfl
end
theorem IV{fs:Nat→Option aq}{ms:Nat→String→Option Nat}{wK:P0}{n:Nat}{t:Task}{k:jj→Bool}(h:TX fs ms wK n t k=true):ev fs ms wK n t k=true:=by
 rw[←IU];exact h
end Ads
end Go.Proofs.YtnlcabhfkpafmaaGreat
set_option linter.unusedSimpArgs false
set_option linter.unusedVariables false
namespace Go.Proofs.YtnlcabhfkpafmaaGreat
namespace Ads
def LB(q:Nat→aq→Prop):List (Nat×aq)→Prop
 |[]=>True
 |p::l=>q p.1 p.2∧LB q l
def VB:List (Nat×aq)→Tr aq
 |[]=>.nil
 |p::l=>(VB l).set p.1 p.2
theorem sW{q:Nat→aq→Prop}:∀{l:List (Nat×aq)},LB q l→∀{f:Nat} {af:aq},(VB l).get f=some af→q f af
 |[],_,f,af,h=>by simp[VB,Tr.get] at h
 |p::l,hq,f,af,h=>by
  simp only[VB,Tr.bx] at h;split at h
  ·rename_i he;cases h
   rw[he];exact hq.1
  ·exact sW hq.2 h
section
variable {P:Program} {fs:Nat→Option aq} {ms:Nat→String→Option Nat}
theorem GL(H0:Nat)(ρ:cI)(w:World)(hl:H0≤w.heap.size):Inv P H0 ρ (fun _=>False) ⟨0,.nil⟩ w:=
 ⟨fun b hb=>hb.elim,fun b _=>rfl,hl,fun b x hb _=>hb.elim,fun b b' hb _ _ _ _=>hb.elim⟩
structure Kept(w w':World):Prop where
 size:w.heap.size≤w'.heap.size
 old:∀r:Nat,r<w.heap.size→w'.heap[r]?=w.heap[r]?
 tape:w'.tape=w.tape
 os:w'.os=w.os
 output:w'.output=w.output
theorem BS.calls(sys:lS P fs ms){f:Nat}{args:List AV}{v:AV}{h1:Heap}(h:BS fs ms (.call f args ⟨0,.nil⟩) (.val v h1))(ha:bh (fun _=>False) args)(w:World):
  Calls P f (an default args).toArray w fun e w'=>∃ρ,e=.returned (real ρ v)∧Kept w w':=by
 have hs:=(h.sound sys w.heap.size).1;have:=hs default (fun _=>False) w 0 (GL _ _ w (Nat.le_refl _)) ha;rw[callsIn_wide] at this;refine this.mono ?_;rintro e w' ⟨ρ',rfl,hi,hx,hv⟩;exact⟨ρ',rfl,hx.size,fun r hr=>hx.frame r hr (fun b hb=>hb.elim),hx.tape,hx.os,hx.output⟩
def isTrue:jj→Bool
 |.val (.bool true) _=>true
 |_=>false
theorem Np{wK:P0}(ho:HZ fs ms wK){n f:Nat}{h:Heap}(he:ev fs ms wK n (.call f [] h) isTrue=true):∃h1,BS fs ms (.call f [] h) (.val (.bool true) h1):=by
 obtain⟨r,hr,hk⟩:=nv ho n _ _ he;cases r with
 |val v h1=>
  cases v with
  |bool b=>cases b with
   |true=>exact⟨h1,hr⟩
   |false=>simp[isTrue] at hk
  |_=>simp[isTrue] at hk
 |_=>simp[isTrue] at hk
end
end Ads
end Go.Proofs.YtnlcabhfkpafmaaGreat
set_option linter.unusedSimpArgs false
set_option linter.unusedVariables false
namespace Go.Proofs.YtnlcabhfkpafmaaGreat
namespace Ads
def Nr{α:Type}:List AV→(List AV→α)→α
 |[],k=>k []
 |v::vs,k=>fC v fun v=>Nr vs fun vs=>k (v::vs)
theorem zX{α:Type}:∀(l:List AV) (k:List AV→α),Nr l k=k l
 |[],k=>rfl
 |v::vs,k=>by simp[Nr,Bi,zX vs]
section
variable (fs:Nat→Option aq) (ms:Nat→String→Option Nat) (rd:Bool)
abbrev zD(t:Bool)(A B:Prop):Prop:=@Bool.rec (fun _=>Prop) B A t
def Comes(c:AC)(e:Env)(h:Heap)(Q:AX→Env→Heap→Prop):Prop:=∃x e' h',BS fs ms (.code rd c e h) (.code x e' h')∧Q x e' h'
def vw(l:List bu)(e:Env)(h:Heap)(Q:Env→Heap→Prop):Prop:=∃tr e' h',BS fs ms (.ops rd l e h) (.ops tr e' h')∧Q e' h'
def yc(f:Nat)(args:List AV)(h:Heap)(Q:AV→Heap→Prop):Prop:=∃v h',BS fs ms (.call f args h) (.val v h')∧Q v h'
def Sz(o:qk)(vals:List AV):Bool:=
 match o with
 |.bin op=>match vals with
  |.str _::_=>match op with
   |.add=>false
   |_=>true
  |_=>match op with
   |.quo|.rem|.shl|.shr=>false
   |_=>true
 |.aG _|.dR _ _|.GK _ _ _|.BO|.slice _ _ _ _|.mw _ _|.mu _ _ _ _ _=>false
 |_=>true
def wpOp(o:fZ)(vals:List AV)(h:Heap)(k:AV→Heap→Prop):Prop:=
 match o with
 |.p .pick=>match vals with
  |[.bool c,a,b]=>zD c (fC a fun v=>k v h) (fC b fun v=>k v h)
  |_=>False
 |.p o=>match Sz o vals with
  |true=>match Ok o vals with
   |some v=>fC v fun v=>k v h
   |none=>False
  |false=>∃v,Ok o vals=some v∧fC v fun v=>k v h
 |.a o=>match WZ o vals with
  |some (x,f)=>k (f h.next) (h.new x)
  |none=>False
 |.r o=>∃v,rI o vals h=some v∧k v h
 |.e o=>∃v h1,eI o vals h=some (v,h1)∧k v h1
 |.call=>match vals with
  |.func (.func f) first aF::args=>yc fs ms f (first++(args++aF)) h k
  |fv::args=>∃v h1,BS fs ms (.cO fv args h) (.val v h1)∧k v h1
  |[]=>False
 |.invoke name=>match vals with
  |.iface t x::args=>match ms t name with
   |some f=>yc fs ms f (x::args) h k
   |none=>False
  |_=>False
 |_=>False
def HA:List bu→Env→Heap→(Env→Heap→Prop)→Prop
 |[],e,h,k=>k e h
 |i::l,e,h,k=>match i.guard with
  |none=>Nr (i.args.map e.ev) fun vals=>wpOp fs ms i.op vals h fun v h1=>jA e i.dst v fun e1=>HA l e1 h1 k
  |some (d,want)=>match e.get d with
   |.bool b=>match want with
    |true=>zD b (Nr (i.args.map e.ev) fun vals=>wpOp fs ms i.op vals h fun v h1=>jA e i.dst v fun e1=>HA l e1 h1 k) (jA e i.dst .undef fun e1=>HA l e1 h k)
    |false=>zD b (jA e i.dst .undef fun e1=>HA l e1 h k) (Nr (i.args.map e.ev) fun vals=>wpOp fs ms i.op vals h fun v h1=>jA e i.dst v fun e1=>HA l e1 h1 k)
   |_=>jA e i.dst .undef fun e1=>HA l e1 h k
def Ea:AC→Env→Heap→(AX→Env→Heap→Prop)→Prop
 |.skip,e,h,k=>k .normal e h
 |.ops l,e,h,k=>HA fs ms l e h fun e h=>k .normal e h
 |.cB l win,e,h,k=>match win.all (·.isEmpty) with
  |true=>HA fs ms l e h fun e h=>k .normal e h
  |false=>∃tr e' h',BS fs ms (.ops rd l e h) (.ops tr e' h')∧mq l win tr h'∧k .normal e' h'
 |.seq a b,e,h,k=>Ea a e h fun x e1 h1=>match x with
  |.normal=>Ea b e1 h1 k
  |x=>k x e1 h1
 |.cond c a b,e,h,k=>match e.ev c with
  |.bool t=>zD t (Ea a e h k) (Ea b e h k)
  |_=>False
 |.block id c,e,h,k=>Ea c e h fun x e1 h1=>match x with
  |.exit i=>match Nat.beq i id with
   |true=>k .normal e1 h1
   |false=>k (.exit i) e1 h1
  |x=>k x e1 h1
 |.loop c,e,h,k=>Comes fs ms rd (.loop c) e h k
 |.rangeFunc f ps a b,e,h,k=>Comes fs ms rd (.rangeFunc f ps a b) e h k
 |.exit id,e,h,k=>k (.exit id) e h
 |.ret,e,h,k=>k .ret e h
 |.bad,_,_,_=>False
end
section
variable {fs:Nat→Option aq} {ms:Nat→String→Option Nat} {rd:Bool}
theorem xw{o:fZ}{vals:List AV}{h:Heap}{k:AV→Heap→Prop}(hw:wpOp fs ms o vals h k):∃v h1,BS fs ms (.op rd o vals h) (.val v h1)∧k v h1:=by
 unfold wpOp at hw;split at hw
 ·split at hw
  ·rename_i c a b;cases c with
   |true=>exact⟨_,_,.CE (v:=a) rfl,by rw[←Bi a fun v=>k v h];exact hw⟩
   |false=>exact⟨_,_,.CE (v:=b) rfl,by rw[←Bi b fun v=>k v h];exact hw⟩
  ·exact hw.elim
 ·split at hw
  ·split at hw
   ·rename_i v hv;rw[DI] at hv;rw[Bi] at hw;exact⟨_,_,.CE hv,hw⟩
   ·exact hw.elim
  ·obtain⟨v,hv,hw⟩:=hw;rw[DI] at hv;rw[Bi] at hw;exact⟨_,_,.CE hv,hw⟩
 ·split at hw
  ·rename_i x f hv;rw[CI] at hv;exact⟨_,_,.Oh hv,hw⟩
  ·exact hw.elim
 ·obtain⟨v,hv,hk⟩:=hw;exact⟨_,_,.tD hv,hk⟩
 ·obtain⟨v,h1,hv,hk⟩:=hw;exact⟨_,_,.Lz hv,hk⟩
 ·split at hw
  ·obtain⟨v,h1,hb,hk⟩:=hw;exact⟨_,_,.mj (.cO hb),hk⟩
  ·obtain⟨v,h1,hb,hk⟩:=hw;exact⟨_,_,.mj hb,hk⟩
  ·exact hw.elim
 ·split at hw
  ·split at hw
   ·rename_i f hf;obtain⟨v,h1,hb,hk⟩:=hw;exact⟨_,_,.kF hf hb,hk⟩
   ·exact hw.elim
  ·exact hw.elim
 ·exact hw.elim
theorem lN:∀{l:List bu} {e:Env} {h:Heap} {k:Env→Heap→Prop},HA fs ms l e h k→vw fs ms rd l e h k
 |[],e,h,k,hw=>⟨_,_,_,.nil,hw⟩
 |i::l,e,h,k,hw=>by
  unfold HA at hw;split at hw
  ·rename_i hg;rw[zX] at hw;obtain⟨v,h1,hb,hk⟩:=xw (rd:=rd) hw;rw[ki] at hk;obtain⟨tr,e',h',hl,hk⟩:=lN hk;exact⟨_,_,_,.on (by simp[bN,hg]) hb hl,hk⟩
  ·rename_i d want hg;split at hw
   ·rename_i b hb;have fI:b=want→(Nr (i.args.map e.ev) fun vals=>wpOp fs ms i.op vals h fun v h1=>jA e i.dst v fun e1=>HA fs ms l e1 h1 k)→vw fs ms rd (i::l) e h k:=by
     intro ZH hw;rw[zX] at hw;obtain⟨v,h1,hb',hk⟩:=xw (rd:=rd) hw;rw[ki] at hk;obtain⟨tr,e',h',hl,hk⟩:=lN hk;exact⟨_,_,_,.on (by simp[bN,hg,hb,ZH]) hb' hl,hk⟩
    have hoff:b=!want→(jA e i.dst .undef fun e1=>HA fs ms l e1 h k)→vw fs ms rd (i::l) e h k:=by
     intro ZH hk;rw[ki] at hk;obtain⟨tr,e',h',hl,hk⟩:=lN hk;exact⟨_,_,_,.off (by simp[bN,hg,hb,ZH]) hl,hk⟩
    cases want<;>cases b
    ·exact fI rfl hw
    ·exact hoff rfl hw
    ·exact hoff rfl hw
    ·exact fI rfl hw
   ·rename_i hne;rw[ki] at hw;obtain⟨tr,e',h',hl,hk⟩:=lN hw;refine⟨_,_,_,.off ?_ hl,hk⟩;unfold bN;rw[hg];cases hv:e.get d with
    |bool b=>exact absurd hv (hne b)
    |_=>simp only[hv]
theorem s7{u:Nat→Heap}:∀{l:List bu} {win:List (List Nat)} {tr:List aJ},win.all (·.isEmpty)=true→cz u l win tr
 |[],_,_,_=>by simp[cz]
 |_::_,[],_,_=>by simp[cz]
 |_::_,_::_,[],_=>by simp[cz]
 |x::l,cs::win,m::tr,h=>by
  simp only[List.all_cons,Bool.and_eq_true] at h;simp only[cz];refine⟨?_,s7 h.2⟩;split
  ·intro _ c hc;rw[List.isEmpty_iff.1 h.1] at hc;simp at hc
  ·trivial
theorem ke:∀{c:AC} {e:Env} {h:Heap} {k:AX→Env→Heap→Prop},Ea fs ms rd c e h k→Comes fs ms rd c e h k
 |.skip,e,h,k,hw=>⟨_,_,_,.skip,hw⟩
 |.ops l,e,h,k,hw=>by
  obtain⟨tr,e',h',hb,hk⟩:=lN (rd:=rd) (show HA fs ms l e h _ from hw);exact⟨_,_,_,.ops hb,hk⟩
 |.cB l win,e,h,k,hw=>by
  unfold Ea at hw;split at hw
  ·rename_i xR;obtain⟨tr,e',h',hb,hk⟩:=lN (rd:=rd) hw;exact⟨_,_,_,.cB hb (s7 xR),hk⟩
  ·obtain⟨tr,e',h',hb,hr,hk⟩:=hw;exact⟨_,_,_,.cB hb hr,hk⟩
 |.seq a b,e,h,k,hw=>by
  obtain⟨x,e1,h1,hb,hk⟩:=ke (show Ea fs ms rd a e h _ from hw);cases x with
  |normal=>
   obtain⟨x2,e2,h2,iG,hk2⟩:=ke (show Ea fs ms rd b e1 h1 k from hk);exact⟨_,_,_,.xZ hb iG,hk2⟩
  |exit i=>exact⟨_,_,_,.oS hb rfl,hk⟩
  |ret=>exact⟨_,_,_,.oS hb rfl,hk⟩
  |panic v=>exact⟨_,_,_,.oS hb rfl,hk⟩
 |.cond c a b,e,h,k,hw=>by
  unfold Ea at hw;split at hw
  ·rename_i t ht;cases t with
   |true=>
    obtain⟨x,e1,h1,hb,hk⟩:=ke (show Ea fs ms rd a e h k from hw);exact⟨_,_,_,.cond ht hb,hk⟩
   |false=>
    obtain⟨x,e1,h1,hb,hk⟩:=ke (show Ea fs ms rd b e h k from hw);exact⟨_,_,_,.cond ht hb,hk⟩
  ·exact hw.elim
 |.block id c,e,h,k,hw=>by
  obtain⟨x,e1,h1,hb,hk⟩:=ke (show Ea fs ms rd c e h _ from hw);cases x with
  |exit i=>
   simp only at hk;split at hk
   ·rename_i Pq;have:=Nat.eq_of_beq_eq_true Pq;subst this;exact⟨_,_,_,.nT hb,hk⟩
   ·rename_i Pq;refine⟨_,_,_,.fJ hb ?_,hk⟩;intro j hj hji;simp only[AX.exit.injEq] at hj;subst hj hji;simp at Pq
  |normal=>exact⟨_,_,_,.fJ hb (by simp),hk⟩
  |ret=>exact⟨_,_,_,.fJ hb (by simp),hk⟩
  |panic v=>exact⟨_,_,_,.fJ hb (by simp),hk⟩
 |.loop c,e,h,k,hw=>hw
 |.rangeFunc f ps a b,e,h,k,hw=>hw
 |.exit id,e,h,k,hw=>⟨_,_,_,.exit,hw⟩
 |.ret,e,h,k,hw=>⟨_,_,_,.ret,hw⟩
 |.bad,e,h,k,hw=>hw.elim
theorem br{t:Bool}{A B:Prop}(h1:t=true→A)(h2:t=false→B):@Bool.rec (fun _=>Prop) B A t:=by
 cases t with
 |true=>exact h1 rfl
 |false=>exact h2 rfl
def Qv(af:aq)(Q:AV→Heap→Prop):AX→Env→Heap→Prop:=fun x e h=>match x with
 |.normal|.ret=>match gD e h af.results with
  |some vs=>Nr vs fun vs=>match vs with
   |[v]=>Q v h
   |vs=>Q (.cD vs) h
  |none=>False
 |_=>False
theorem TW{Q:AV→Heap→Prop}{vs:List AV}{h:Heap}(hk:Nr vs fun vs=>match vs with
   |[v]=>Q v h
   |vs=>Q (.cD vs) h):Q (cX vs) h:=by
 rw[zX] at hk;rcases vs with _|⟨v,_|⟨u,r⟩⟩<;>exact hk
theorem abb{f:Nat}{af:aq}{args:List AV}{h:Heap}{Q:AV→Heap→Prop}(hf:fs f=some af)(hlen:args.length≤af.ntmps)
  (hw:p8 af.ntmps args fun e=>Ea fs ms false af.body e h (Qv af Q)):yc fs ms f args h Q:=by
 rw[nH] at hw;obtain⟨x,e1,h1,hb,hk⟩:=ke hw;cases x with
 |normal=>
  simp only[Qv] at hk;split at hk
  ·rename_i vs hvs;exact⟨_,_,.call hf hlen hb (.inl rfl) hvs,TW hk⟩
  ·exact hk.elim
 |ret=>
  simp only[Qv] at hk;split at hk
  ·rename_i vs hvs;exact⟨_,_,.call hf hlen hb (.inr rfl) hvs,TW hk⟩
  ·exact hk.elim
 |exit i=>exact hk.elim
 |panic v=>exact hk.elim
theorem yc.mono{f:Nat}{args:List AV}{h:Heap}{Q Q':AV→Heap→Prop}(hc:yc fs ms f args h Q)(hq:∀v h',Q v h'→Q' v h'):yc fs ms f args h Q':=by
 obtain⟨v,h',hb,hk⟩:=hc;exact⟨v,h',hb,hq v h' hk⟩
theorem Comes.mono{c:AC}{e:Env}{h:Heap}{Q Q':AX→Env→Heap→Prop}(hc:Comes fs ms rd c e h Q)(hq:∀x e' h',Q x e' h'→Q' x e' h'):Comes fs ms rd c e h Q':=by
 obtain⟨x,e',h',hb,hk⟩:=hc;exact⟨x,e',h',hb,hq x e' h' hk⟩
theorem Ql{c:AC}{e:Env}{h:Heap}{Q:AX→Env→Heap→Prop}
  (hw:Ea fs ms rd c e h fun x e1 h1=>match x with|.normal=>Comes fs ms rd (.loop c) e1 h1 Q|x=>Q x e1 h1):Comes fs ms rd (.loop c) e h Q:=by
 obtain⟨x,e1,h1,hb,hk⟩:=ke hw;cases x with
 |normal=>
  obtain⟨x2,e2,h2,iG,hk2⟩:=hk;exact⟨_,_,_,.mg hb iG,hk2⟩
 |exit i=>exact⟨_,_,_,.cU hb rfl,hk⟩
 |ret=>exact⟨_,_,_,.cU hb rfl,hk⟩
 |panic v=>exact⟨_,_,_,.cU hb rfl,hk⟩
def sk:Nat→(Nat→Option AV)→Env
 |0,_=>.nil
 |d+1,g=>.node (sk d fun j=>g (2*j+1)) (g 0) (sk d fun j=>g (2*j+2))
def isFull:Nat→Env→Bool
 |0,.nil=>true
 |d+1,.node l _ r=>cond (isFull d l) (isFull d r) false
 |_,_=>false
theorem DX:∀(d:Nat) (e:Env),isFull d e=true→sk d (Tr.get e)=e
 |0,.nil,_=>rfl
 |0,.node _ _ _,h=>by simp[isFull] at h
 |d+1,.nil,h=>by simp[isFull] at h
 |d+1,.node l v r,h=>by
  simp only[isFull] at h;cases hl:isFull d l with
  |false=>rw[hl] at h;simp at h
  |true=>
   rw[hl] at h;simp only[cond_true] at h;have h1:(fun j=>(Tr.node l v r).get (2*j+1))=Tr.get l:=by
    funext j
    rw[Tr.iy _ _ (by omega)];simp only[Tr.left]
    congr 1
    omega
   have h2:(fun j=>(Tr.node l v r).get (2*j+2))=Tr.get r:=by
    funext j
    rw[Tr.fm _ _ (by omega) (by omega)];simp only[Tr.right]
    congr 1
    omega
   simp only[sk];rw[h1,h2,DX d l hl,DX d r h];simp[Tr.get]
def kn(l:List (Nat×AV))(g:Nat→Option AV)(i:Nat):Option AV:=
 match l with
 |[]=>g i
 |(j,v)::r=>cond (Nat.beq i j) (some v) (kn r g i)
def bZ(e:Env):List (Nat×AV)→Prop
 |[]=>True
 |(i,v)::l=>Tr.get e i=some v∧bZ e l
theorem J8{e:Env}:∀{l:List (Nat×AV)},bZ e l→∀i,kn l (Tr.get e) i=Tr.get e i
 |[],_,i=>rfl
 |(j,v)::r,h,i=>by
  simp only[kn];cases hb:Nat.beq i j with
  |false=>exact J8 h.2 i
  |true=>
   have:=Nat.eq_of_beq_eq_true hb;subst this;exact h.1.symm
theorem VT{P:Env→Prop}{e:Env}(d:Nat)(l:List (Nat×AV))(hf:isFull d e=true)(hl:bZ e l)(hc:∀g,P (sk d (kn l g))):P e:=by
 have:=hc (Tr.get e)
 rwa [show kn l (Tr.get e)=Tr.get e from funext (J8 hl),DX d e hf] at this
theorem TO{c:AC}{e:Env}{h:Heap}{Q:AX→Env→Heap→Prop}(d:Nat)(l:List (Nat×AV))(hf:isFull d e=true)(hl:bZ e l)
  (hc:∀g,Comes fs ms rd c (sk d (kn l g)) h Q):Comes fs ms rd c e h Q:=VT (P:=fun e=>Comes fs ms rd c e h Q) d l hf hl hc
end
end Ads
end Go.Proofs.YtnlcabhfkpafmaaGreat
