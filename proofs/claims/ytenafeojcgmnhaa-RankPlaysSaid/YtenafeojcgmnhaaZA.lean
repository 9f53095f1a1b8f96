/-
  Rows in blocks: filled from the front, grown by append. What values of struct types are. Rows that grow while another one grows: three blocks, of which some may be missing. Rows that lie at a block's start, with room behind them. Small helpers of the document's answers: EqInts, CopyInts, Bring. Heaps of eight blocks, of which some may be missing. Heaps that are not known but for some blocks: how operations read and write them. Rank: ids with their keys, as cells; ahead, lay. Stops inside regions, loops and tests.
-/
import Derived.Test.YtenafeojcgmnhaaVsLoop
import Derived.KernelRfl
import Derived.Test.YtenafeojcgmnhaaVsLaw
import Derived.Test.YtenafeojcgmnhaaVsTop
import Derived.Test.YtenafeojcgmnhaaIrLink
set_option maxRecDepth 100000
set_option linter.unusedSimpArgs false
set_option linter.unusedVariables false
namespace Go.Proofs.Ytenafeojcgmnhaa
open Go Ads
namespace Ads
theorem nN{k:IntKind}(a b:Int)(hb:b≠0):pV (.bin .rem) [.int k a,.int k b]=some (.int k (a.tmod b)):=by
 simp[pV,Kn,l2,B1,yH,jQ,qJ,hb]
theorem D9{k:IntKind}(a b:Int)(hb:b≠0):pV (.bin .quo) [.int k a,.int k b]=some (.int k (k.wrap (a.tdiv b))):=by
 simp[pV,Kn,l2,B1,yH,jQ,qJ,hb]
theorem wrap_wrap(n:Int):IntKind.i64.wrap (IntKind.i64.wrap n)=IntKind.i64.wrap n:=by simp only[IntKind.wrap_i64];omega
theorem iw{n:Nat}(h:n<9223372036854775808):IntKind.i64.wrap (n:Int)=n:=IntWalk.i64_in _ (by omega)
theorem lE{P:Nat→Prop}{g:Heap}{b n s:Nat}{l vs:List AV}{wr:Bool}{es:Nat}(hb:P b)(hg:g.get b=some (.cells vs wr es))(hv:vs=aj l)(hs:aU s l=true)(hn:n=l.length)(kK:iy l=true):
  lX P g (.sl b 0 n n true) (.fz 0 l):=
 .row (s:=s) hb hg hv hs hn (Nat.le_refl _) (by omega) (fun h=>by omega) (fun h=>by omega) kK
theorem Bw{p:Nat→Nat}{n:Nat}{e:Env}{i b o len cap:Nat}{op:Bool}{l:List (Nat×AV)}(h:Tr.get e i=some (.sl (p b) o len cap op))(hb:b<n)(hl:ja p n e l):ja p n e ((i,.sl b o len cap op)::l):=⟨⟨_,h,.sl hb⟩,hl⟩
section
variable {fs:Nat→Option aC} {ms:Nat→String→Option Nat} {B:Nat} {rd:Bool}
theorem bC{f:Nat}{af:aC}{args:List AV}{h:Heap}{Q:AV→Heap→Prop}(hf:fs f=some af)(hlen:args.length≤af.ntmps)
  (hw:q7 af.ntmps args fun e=>VC fs ms h.next false af.body e h (yK af.results Q)):VD fs ms f args h Q:=by
 rw[m8] at hw;exact Ej hf hlen hw
theorem aa{a b:AC}{e:Env}{h:Heap}{Q:AX→Env→Heap→Prop}(z:Bool)
  (hw:Df fs ms B rd z a e h fun x e1 h1=>match x with|.normal=>VC fs ms B rd b e1 h1 Q|x=>Q x e1 h1):VC fs ms B rd (.seq a b) e h Q:=by
 obtain⟨x,e1,h1,hb,hk⟩:=aq hw;cases x with
 |normal=>
  obtain⟨x2,e2,h2,jh,hk2⟩:=hk;exact⟨_,_,_,.w7 hb jh,hk2⟩
 |exit i=>exact⟨_,_,_,.n9 hb rfl,hk⟩
 |ret=>exact⟨_,_,_,.n9 hb rfl,hk⟩
 |panic v=>exact⟨_,_,_,.n9 hb rfl,hk⟩
end
theorem Tx{B:Nat}{e:Env}{h H:Heap}{d n:Nat}{l:List (Nat×AV)}{m:List (Nat×cw)}(hH:H=hk n m)(p:Nat→Nat)(hl:ja p n e l)(hm:xe p n h m)
  (hp:∀b c,b∈m.map (·.1)→c∈m.map (·.1)→p b=p c→b=c)(tB:∀b,b<B→p b=b)(hn:B≤n):GC B p e h (ek d l) H:=by
 subst hH;exact Pt p hl hm hp tB hn
theorem Vp{fs:Nat→Option aC}{ms:Nat→String→Option Nat}{B:Nat}{rd:Bool}{c:AC}{e:Env}{h H:Heap}{Q:AX→Env→Heap→Prop}{d n:Nat}{l:List (Nat×AV)}{m:List (Nat×cw)}(hH:H=hk n m)(p:Nat→Nat)(hl:ja p n e l)(hm:xe p n h m)
  (hp:∀b c,b∈m.map (·.1)→c∈m.map (·.1)→p b=p c→b=c)(tB:∀b,b<B→p b=b)(hn:B≤n)(hw:VC fs ms B rd c (ek d l) H Q):VC fs ms B rd c e h Q:=by
 subst hH;exact Ls d l n m p hl hm hp tB hn hw
theorem Uf(x:cw):(⟨1,.node .nil (some x) .nil⟩:Heap)=hk 1 [(0,x)]:=rfl
theorem Ug(x y:cw):(⟨2,.node (.node .nil (some y) .nil) (some x) .nil⟩:Heap)=hk 2 [(0,x),(1,y)]:=by kernel_rfl
theorem Qc(x y z:cw):(⟨3,.node (.node .nil (some y) .nil) (some x) (.node .nil (some z) .nil)⟩:Heap)=hk 3 [(0,x),(1,y),(2,z)]:=by kernel_rfl
theorem Rw{fs:Nat→Option aC}{ms:Nat→String→Option Nat}{B:Nat}{g:bG}{ps:List Nat}{a b:AC}{e:Env}{h:Heap}{f:Nat}{first aX:List AV}{Q:AX→Env→Heap→Prop}(hao:dQ e [g]=true)(z5:Env.ev e g=.func (.func f) first aX)
  (hw:VD fs ms f (first++(.yield h.next::aX)) (h.new (.loop 0 none e ps a b)) fun _ h2=>∃x st,h2.get h.next=some (.loop st (dH x) e ps a b)∧st≠1∧(∀v,x≠.panic v)∧Q x e (h2.set h.next (.loop 3 (dH x) e ps a b))):
  VC fs ms B false (.rangeFunc g ps a b) e h Q:=by
 obtain⟨v,h2,hb,x,st,h3,h4,h5,h6⟩:=hw;exact⟨x,e,_,.rangeFunc hao z5 (hb B) h3 h4 h5,h6⟩
theorem Ry{fs:Nat→Option aC}{ms:Nat→String→Option Nat}{L:Nat}{args:List AV}{h:Heap}{cu:Option AX}{e:Env}{ps:List Nat}{a b:AC}{k:AV→Heap→Prop}(hg:h.get L=some (.loop 0 cu e ps a b))(hlen:args.length=ps.length)
  (hw:VC fs ms h.next true a (fY ps args e) h fun x e2 h2=>x=.normal∧∃cm,h2.get L=some (.loop 0 cm e ps a b)∧
   VC fs ms h.next true b e2 (h2.set L (.loop 1 cm e ps a b)) fun x e4 h4=>(∀v,x≠.panic v)∧(∃It oN,h4.get L=some (.loop It oN e ps a b))∧k (.bool x.bI) (h4.set L (.loop (bif x.bI then 0 else 2) (dH x) e ps a b))):
  ∃v h1,(∀B,VS fs ms B (.cH (.yield L) args h) (.val v h1))∧k v h1:=by
 obtain⟨x,e2,h2,hb,rfl,cm,h3,y,e4,h4,jh,h5,⟨It,oN,h6⟩,h7⟩:=hw;exact⟨_,_,fun B=>.yield hg hlen hb h3 jh h5 h6,h7⟩
theorem Ou{n d st:Nat}{cu:Option AX}{l:List (Nat×AV)}{ps:List Nat}{a b:AC}(h:∀x,x∈l→qG id n x.2 x.2):ki id n (.loop st cu (ek d l) ps a b) (.loop st cu (ek d l) ps a b):=by
 refine .loop fun i v hv=>⟨v,hv,?_⟩;have h1:=oV d _ i v hv;have:∀{l:List (Nat×AV)},(∀x,x∈l→qG id n x.2 x.2)→kn l (fun _=>none) i=some v→qG id n v v:=by
  intro l;induction l with
  |nil=>intro _ h;simp[kn] at h
  |cons p l ih=>
   intro h h2;obtain⟨j,w⟩:=p;simp only[kn] at h2;cases hb:Nat.beq i j with
   |false=>rw[hb] at h2;exact ih (fun x hx=>h x (List.mem_cons_of_mem _ hx)) h2
   |true=>rw[hb] at h2;simp only[cond_true,Option.some.injEq] at h2;subst h2;exact h _ List.mem_cons_self
 exact this h h1
theorem IK{c:Bool}{A B:Prop}(hc:c=true)(h:c=true→A):xu c A B:=br h (fun h2=>by rw[hc] at h2;exact absurd h2 (by decide))
theorem od{c:Bool}{A B:Prop}(hc:c=false)(h:c=false→B):xu c A B:=br (fun h2=>by rw[hc] at h2;exact absurd h2 (by decide)) h
theorem brT{c:Bool}{A B:Prop}(hc:c=true)(h:A):xu c A B:=br (fun _=>h) (fun h2=>by rw[hc] at h2;exact absurd h2 (by decide))
theorem brF{c:Bool}{A B:Prop}(hc:c=false)(h:B):xu c A B:=br (fun h2=>by rw[hc] at h2;exact absurd h2 (by decide)) (fun _=>h)
theorem ya{p:Nat→Nat}{n:Nat}{e:Env}{i b o:Nat}{l:List (Nat×AV)}(h:Tr.get e i=some (.ptr (p b) o))(hb:b<n)(hl:ja p n e l):ja p n e ((i,.ptr b o)::l):=⟨⟨_,h,.ptr hb⟩,hl⟩
theorem ug{p:Nat→Nat}{n:Nat}{e:Env}{i b:Nat}{l:List (Nat×AV)}(h:Tr.get e i=some (.yield (p b)))(hb:b<n)(hl:ja p n e l):ja p n e ((i,.yield b)::l):=⟨⟨_,h,.yield hb⟩,hl⟩
def KX:Nat→AV
 |0=>.aN
 |j+1=>.sl 0 0 (j+1) (j+1) true
def Gv(s:Nat)(L:List AV):Nat→Heap
 |0=>⟨0,.nil⟩
 |j+1=>⟨1,.node .nil (some (.cells (aj (L.take (j+1))) true s)) .nil⟩
def Gx:Nat→Nat
 |0=>3
 |_+1=>0
theorem Pv{P:Nat→Prop}{s:Nat}{L:List AV}(hs:aU s L=true)(hc:iy L=true)(hP:P 0):∀n,n=L.length→lX P (Gv s L n) (KX n) (.fz (Gx n) L)
 |0,h=>by
  have:L=[]:=List.length_eq_zero_iff.1 h.symm;subst this;exact .aN
 |n+1,h=>by
  refine lE (b:=0) (s:=s) (wr:=true) (es:=s) (vs:=aj L) hP ?_ rfl hs h hc;show(Gv s L (n+1)).get 0=_;simp only[Gv,h,List.take_length];rfl
def Gw(L:List Int):Nat→Heap
 |0=>⟨0,.nil⟩
 |j+1=>⟨1,.node .nil (some (.cells (ints (L.take (j+1))) true 1)) .nil⟩
theorem N7{P:Nat→Prop}{L:List Int}(hP:P 0):∀n,n=L.length→lX P (Gw L n) (KX n) (.fz (Gx n) (ints L))
 |0,h=>by
  have:L=[]:=List.length_eq_zero_iff.1 h.symm;subst this;exact .aN
 |n+1,h=>by
  refine lE (b:=0) (s:=1) (wr:=true) (es:=1) (vs:=ints L) hP ?_ (tf L).symm (tL L) (by rw[ck];exact h) (kG L);show(Gw L (n+1)).get 0=_;simp only[Gw,h,List.take_length];rfl
theorem Ec{p:Nat→Nat}{n:Nat}{M vs:List AV}{wr:Bool}{es:Nat}(h:vs=M)(hc:iy M=true):ki p n (.cells M wr es) (.cells vs wr es):=by
 subst h;refine .cells rfl fun i x y hx hy=>?_;rw[hx] at hy;cases hy
 exact .cl (fU hc hx)
theorem Ot{p:Nat→Nat}{n:Nat}{M:List Int}{vs:List AV}{wr:Bool}{es:Nat}(h:vs=ints M):ki p n (.cells (ints M) wr es) (.cells vs wr es):=Ec h (kG M)
theorem OW{nx:Nat}{tr:Tr cw}{b n:Nat}{vs:List AV}{x:AV}{m:Int}(hg:Heap.get ⟨nx,tr⟩ b=some (.cells vs true 1))(hv:vs.length=n)(hn:n≤1048576)(hs:eC 1 ⟨nx,tr⟩ x=some (1,[.int .i64 m])):
  eV (.append 1 8) [.sl b 0 n n true,x] ⟨nx,tr⟩=some (.sl nx 0 (n+1) (n+1) true,⟨nx+1,Tr.set (Heap.del ⟨nx,tr⟩ b).m nx (.cells (vs++[.int .i64 m]) true 1)⟩):=by
 subst hv;have hl:Heap.aO ⟨nx,tr⟩ b 0 (vs.length*1)=some vs:=by
  rw[iV hg (by simp)];simp
 have b1:Nat.ble (vs.length+1) vs.length=false:=by
  cases hb:Nat.ble (vs.length+1) vs.length with
  |false=>rfl
  |true=>have:=Nat.le_of_ble_eq_true hb;omega
 have b2:Nat.ble ((vs.length+1)*8) 140737488355328=true:=Nat.ble_eq_true_of_le (by omega);have b3:Nat.ble (vs.length+1) 9223372036854775807=true:=Nat.ble_eq_true_of_le (by omega);have b4:Nat.beq 1 0=false:=rfl;have b5:Nat.beq vs.length (0+vs.length*1)=true:=by rw[Nat.zero_add,Nat.mul_one];exact Nat.beq_refl _
 have b6:Nat.beq vs.length vs.length=true:=Nat.beq_refl _;have b7:Nat.beq 1 1=true:=rfl;simp only[eV,l2,hs];show cond (bE [AV.int .i64 m]) _ _=_;rw[show bE [AV.int .i64 m]=true from rfl,cond_true,b4,Bool.false_and,cond_false,b1,cond_false,b2,b3,Bool.and_self,cond_true,hg,hl];simp only[b5,b6,b7,Bool.and_self,cond_true];rfl
theorem OV{nx:Nat}{tr:Tr cw}{x:AV}{m:Int}(hs:eC 1 ⟨nx,tr⟩ x=some (1,[.int .i64 m])):
  eV (.append 1 8) [.aN,x] ⟨nx,tr⟩=some (.sl nx 0 1 1 true,⟨nx+1,Tr.set tr nx (.cells [.int .i64 m] true 1)⟩):=by
 simp only[eV,l2,hs];rfl
theorem UO{b n cap j:Nat}{op:Bool}(h:j<n):pV (.ak 1) [.sl b 0 n cap op,.int .i64 (j:Nat)]=some (.ptr b j):=by
 have b1:Nat.ble (j+1) n=true:=Nat.ble_eq_true_of_le h;simp only[pV,l2,rJ];show cond (Nat.ble (j+1) n) (some (AV.ptr b (0+j*1))) none=_;rw[b1,cond_true,Nat.zero_add,Nat.mul_one]
theorem NZ{s bytes nx:Nat}{tr:Tr cw}{b n:Nat}{vs cs:List AV}{x:AV}(hg:Heap.get ⟨nx,tr⟩ b=some (.cells vs true s))(hv:vs.length=n*s)(hn:n≤1048576)(hb:bytes≤1048576)
  (hs:eC s ⟨nx,tr⟩ x=some (1,cs))(hf:bE cs=true):
  eV (.append s bytes) [.sl b 0 n n true,x] ⟨nx,tr⟩=some (.sl nx 0 (n+1) (n+1) true,⟨nx+1,Tr.set (Heap.del ⟨nx,tr⟩ b).m nx (.cells (vs++cs) true s)⟩):=by
 have hl:Heap.aO ⟨nx,tr⟩ b 0 (n*s)=some vs:=by
  rw[iV hg (by omega),List.drop_zero,←hv,List.take_length]
 have b1:Nat.ble (n+1) n=false:=by
  cases hb:Nat.ble (n+1) n with
  |false=>rfl
  |true=>have:=Nat.le_of_ble_eq_true hb;omega
 have hm:(n+1)*bytes≤1048577*1048576:=Nat.mul_le_mul (by omega) hb;have b2:Nat.ble ((n+1)*bytes) 140737488355328=true:=Nat.ble_eq_true_of_le (by omega);have b3:Nat.ble (n+1) 9223372036854775807=true:=Nat.ble_eq_true_of_le (by omega);have b4:Nat.beq 1 0=false:=rfl;have b5:Nat.beq vs.length (0+n*s)=true:=by rw[Nat.zero_add,hv];exact Nat.beq_refl _
 have b6:Nat.beq n n=true:=Nat.beq_refl _;have b7:Nat.beq s s=true:=Nat.beq_refl _;simp only[eV,l2,hs];show cond (bE cs) _ _=_;rw[hf,cond_true,b4,Bool.false_and,cond_false,b1,cond_false,b2,b3,Bool.and_self,cond_true,hg,hl];simp only[b5,b6,b7,Bool.and_self,cond_true];rfl
theorem sX{s bytes nx:Nat}{tr:Tr cw}{x:AV}{cs:List AV}(hb:bytes≤1048576)(hs:eC s ⟨nx,tr⟩ x=some (1,cs))(hf:bE cs=true):
  eV (.append s bytes) [.aN,x] ⟨nx,tr⟩=some (.sl nx 0 1 1 true,⟨nx+1,Tr.set tr nx (.cells cs true s)⟩):=by
 have b2:Nat.ble (1*bytes) 140737488355328=true:=Nat.ble_eq_true_of_le (by omega);simp only[eV,l2,hs];show cond (bE cs) _ _=_;rw[hf,cond_true];show cond (Nat.ble (1*bytes) 140737488355328&&true) _ _=_;rw[b2];rfl
theorem Di:∀n:Nat,dJ [.int .i64 0] n=ints (List.replicate n 0):=by
 intro n;induction n with
 |zero=>rfl
 |succ n ih=>
  show _=AV.int .i64 0::ints (List.replicate n 0);rw[←ih];rfl
theorem S5{n:Nat}(hn:n≤17592186044416):aI (.pR [.int .i64 0] 1 8) [.int .i64 (n:Nat),.int .i64 (n:Nat)]=some (.cells (ints (List.replicate n 0)) true 0,fun b=>.sl b 0 n n false):=by
 have b1:Nat.ble n n=true:=Nat.ble_eq_true_of_le (Nat.le_refl _);have b2:Nat.ble (8*n) 140737488355328=true:=Nat.ble_eq_true_of_le (by omega);have b3:Nat.ble n 9223372036854775807=true:=Nat.ble_eq_true_of_le (by omega);show cond (Nat.ble n n&&Nat.ble (8*n) 140737488355328&&Nat.ble n 9223372036854775807) (some (cw.cells (dJ [AV.int .i64 0] n) true 0,fun b=>AV.sl b 0 n n false)) none=_;rw[b1,b2,b3,Di];rfl
def oD(ts:List Int)(j:Nat):List Int:=ts.take j++List.replicate (ts.length-j) 0
theorem vu(ts:List Int){j:Nat}(h:j≤ts.length):(oD ts j).length=ts.length:=by simp[oD];omega
theorem Pf(ts:List Int):oD ts ts.length=ts:=by simp[oD]
theorem N4(ts:List Int):oD ts 0=List.replicate ts.length 0:=by simp[oD]
theorem iG{α:Type}:∀(l:List α) (o:Nat) (x:α),o<l.length→Heap.splice l o [x]=l.set o x
 |[],o,x,h=>by simp at h
 |y::l,0,x,h=>by
  show x::Heap.splice l 0 []=_;have:Heap.splice l 0 []=l:=by cases l<;>rfl
  rw[this];rfl
 |y::l,o+1,x,h=>by
  show y::Heap.splice l o [x]=_;rw[iG l o x (by simpa using h)];rfl
theorem EH(ts:List Int){j:Nat}(h:j<ts.length):(oD ts j).set j ts[j]=oD ts (j+1):=by
 apply List.ext_getElem
 ·rw[List.length_set,vu ts (by omega),vu ts (by omega)]
 ·intro i h1 h2;rw[List.getElem_set];simp only[oD,List.getElem_append,List.length_take,List.getElem_take,List.getElem_replicate];by_cases e:j=i
  ·subst e;simp only[if_true];rw[dif_pos (by omega)]
  ·rw[if_neg e];by_cases e2:i<j
   ·rw[dif_pos (by omega),dif_pos (by omega)]
   ·rw[dif_neg (by omega),dif_neg (by omega)]
theorem Pg(ts:List Int){j:Nat}(h:j<ts.length){x:Int}(hx:x=ts[j]):Heap.splice (ints (oD ts j)) j [.int .i64 x]=ints (oD ts (j+1)):=by
 subst hx;rw[iG _ _ _ (by rw[ck,vu ts (by omega)];exact h),←EH ts h];simp[ints,List.map_set]
end Ads
end Go.Proofs.Ytenafeojcgmnhaa
namespace Go.Proofs.Ytenafeojcgmnhaa
open Go
namespace Ads
section
variable {P:Program}
def AF(t:TypeId):Bool:=match P.underlying t with
 |some (.int _)=>true
 |some .bool=>true
 |some .string=>true
 |some (.slice _)=>true
 |_=>false
def DB(fs:Array Field):Nat→Bool
 |0=>true
 |n+1=>(match fs[n]? with|some f=>Nat.beq f.offset n&&AF (P:=P) f.type&&Nat.beq (P.cellsOf f.type) 1|none=>false)&&DB fs n
theorem xF{fs:Array Field}:∀{n:Nat},DB (P:=P) fs n=true→∀i,i<n→∃f,fs[i]?=some f∧f.offset=i∧AF (P:=P) f.type=true∧P.cellsOf f.type=1
 |0,_,i,hi=>by omega
 |n+1,h,i,hi=>by
  simp only[DB,Bool.and_eq_true] at h;by_cases e:i=n
  ·subst e;have h1:=h.1;split at h1
   ·rename_i f hf;simp only[Bool.and_eq_true] at h1;exact⟨f,hf,Nat.eq_of_beq_eq_true h1.1.1,h1.1.2,Nat.eq_of_beq_eq_true h1.2⟩
   ·simp at h1
  ·exact xF h.2 i (by omega)
theorem Ci{t:TypeId}{x:AV}(h:cE P t x)(hf:AF (P:=P) t=true):x.cells=[x]:=by
 cases h with
 |struct h1=>simp[AF,h1] at hf
 |array h1=>simp[AF,h1] at hf
 |_=>rfl
theorem Eg{t:TypeId}{fs:Array Field}{x:AV}{n:Nat}(h:cE P t x)(hu:P.underlying t=some (.struct fs))(hc:P.cellsOf t=n)(hs:fs.size=n)(hf:DB (P:=P) fs n=true):
  ∃cs:List AV,x=.agg cs∧cs.length=n∧∀(i:Nat) (f:Field) (y:AV),fs[i]?=some f→cs[i]?=some y→cE P f.type y:=by
 obtain⟨cs,ys,rfl,h1,h2,h3⟩:=Fp h hu;refine⟨cs,rfl,by omega,fun i f y SG hy=>?_⟩;have hi:i<n:=by have:=(List.getElem?_eq_some_iff.1 hy).1;omega
 obtain⟨g,g1,g2,g3,g4⟩:=xF hf i hi;rw[g1] at SG;cases SG
 have hz:ys[i]?=some (ys[i]'(by omega)):=List.getElem?_eq_getElem _;obtain⟨k1,k2⟩:=h3 i f _ g1 hz;rw[Ci k1 g3,g2,g4] at k2;have:cs[i]?=some (ys[i]'(by omega)):=by
  have:=congrArg (fun l=>l[0]?) k2;simpa using this.symm
 rw[hy] at this;cases this
 exact k1
end
end Ads
end Go.Proofs.Ytenafeojcgmnhaa
namespace Go.Proofs.Ytenafeojcgmnhaa
open Go Ads
namespace Ads
section
variable {fs:Nat→Option aC} {ms:Nat→String→Option Nat} {rd:Bool}
theorem Pj{c:AC}{Q:AX→Env→Heap→Prop}(B d N:Nat)(I:Nat→Prop)(E:Nat→List (Nat×AV))(H:Nat→Heap)
  (step:∀j,j<N→I j→Df fs ms B rd false c (ek d (E j)) (H j) fun x e1 h1=>match x with|.normal=>I (j+1)∧∃p,GC B p e1 h1 (ek d (E (j+1))) (H (j+1))|x=>Q x e1 h1)
  (last:I N→VC fs ms B rd (.loop c) (ek d (E N)) (H N) Q)
  (h0:I 0):VC fs ms B rd (.loop c) (ek d (E 0)) (H 0) Q:=by
 have:∀r j,j+r=N→I j→VC fs ms B rd (.loop c) (ek d (E j)) (H j) Q:=by
  intro r;induction r with
  |zero=>
   intro j hj hi;have:j=N:=by omega
   subst this;exact last hi
  |succ r ih=>
   intro j hj hi;obtain⟨x,e1,h1,hb,hk⟩:=aq (step j (by omega) hi);cases x with
   |normal=>
    obtain⟨hi',p,hr⟩:=hk;obtain⟨x2,e2,h2,jh,hk2⟩:=BH hr (ih (j+1) (by omega) hi');exact⟨_,_,_,.lI hb jh,hk2⟩
   |exit i=>exact⟨_,_,_,.cQ hb rfl,hk⟩
   |ret=>exact⟨_,_,_,.cQ hb rfl,hk⟩
   |panic v=>exact⟨_,_,_,.cQ hb rfl,hk⟩
 exact this N 0 (by omega) h0
theorem Pn{c:AC}{Q:AX→Env→Heap→Prop}(d N:Nat)(E:Nat→List (Nat×AV))
  (step:∀j,j<N→Df fs ms 0 rd false c (ek d (E j)) (hk 0 []) fun x e1 h1=>match x with|.normal=>True∧ja id 0 e1 (E (j+1))|x=>Q x e1 h1)
  (last:VC fs ms 0 rd (.loop c) (ek d (E N)) (hk 0 []) Q):VC fs ms 0 rd (.loop c) (ek d (E 0)) (hk 0 []) Q:=by
 have:∀r j,j+r=N→VC fs ms 0 rd (.loop c) (ek d (E j)) (hk 0 []) Q:=by
  intro r;induction r with
  |zero=>
   intro j hj;have:j=N:=by omega
   subst this;exact last
  |succ r ih=>
   intro j hj;obtain⟨x,e1,h1,hb,hk⟩:=aq (step j (by omega));cases x with
   |normal=>
    obtain⟨x2,e2,h2,jh,hk2⟩:=De (h:=h1) d (E (j+1)) hk.2 (ih (j+1) (by omega));exact⟨_,_,_,.lI hb jh,hk2⟩
   |exit i=>exact⟨_,_,_,.cQ hb rfl,hk⟩
   |ret=>exact⟨_,_,_,.cQ hb rfl,hk⟩
   |panic v=>exact⟨_,_,_,.cQ hb rfl,hk⟩
 exact this N 0 (by omega)
theorem Pm{c:AC}{Q:AX→Env→Heap→Prop}(B d N:Nat)(E:Nat→List (Nat×AV))(H:Nat→Heap)
  (step:∀j,j<N→∀K:AX→Env→Heap→Prop,(∀e1 h1 p,GC B p e1 h1 (ek d (E (j+1))) (H (j+1))→K .normal e1 h1)→VC fs ms B rd c (ek d (E j)) (H j) K)
  (last:VC fs ms B rd (.loop c) (ek d (E N)) (H N) Q):VC fs ms B rd (.loop c) (ek d (E 0)) (H 0) Q:=by
 have:∀r j,j+r=N→VC fs ms B rd (.loop c) (ek d (E j)) (H j) Q:=by
  intro r;induction r with
  |zero=>
   intro j hj;have:j=N:=by omega
   subst this;exact last
  |succ r ih=>
   intro j hj;obtain⟨x,e1,h1,hb,hk⟩:=step j (by omega) (fun x e1 h1=>x=.normal∧∃p,GC B p e1 h1 (ek d (E (j+1))) (H (j+1))) (fun e1 h1 p hg=>⟨rfl,p,hg⟩);obtain⟨rfl,p,hr⟩:=hk;obtain⟨x2,e2,h2,jh,hk2⟩:=BH hr (ih (j+1) (by omega));exact⟨_,_,_,.lI hb jh,hk2⟩
 exact this N 0 (by omega)
theorem aJ{B:Nat}{a b:AC}{e:Env}{h:Heap}{Q:AX→Env→Heap→Prop}
  (hw:VC fs ms B rd a e h fun x e1 h1=>match x with|.normal=>VC fs ms B rd b e1 h1 Q|x=>Q x e1 h1):VC fs ms B rd (.seq a b) e h Q:=by
 obtain⟨x,e1,h1,hb,hk⟩:=hw;cases x with
 |normal=>
  obtain⟨x2,e2,h2,jh,hk2⟩:=hk;exact⟨_,_,_,.w7 hb jh,hk2⟩
 |exit i=>exact⟨_,_,_,.n9 hb rfl,hk⟩
 |ret=>exact⟨_,_,_,.n9 hb rfl,hk⟩
 |panic v=>exact⟨_,_,_,.n9 hb rfl,hk⟩
theorem aG{B id:Nat}{c:AC}{e:Env}{h:Heap}{Q:AX→Env→Heap→Prop}
  (hw:VC fs ms B rd c e h fun x e1 h1=>match x with|.exit i=>(if i=id then Q .normal e1 h1 else Q (.exit i) e1 h1)|x=>Q x e1 h1):VC fs ms B rd (.block id c) e h Q:=by
 obtain⟨x,e1,h1,hb,hk⟩:=hw;cases x with
 |normal=>exact⟨_,_,_,.fR hb (by intro i hi;cases hi),hk⟩
 |exit i=>
  by_cases hi:i=id
  ·subst hi;simp only[if_true] at hk;exact⟨_,_,_,.nv hb,hk⟩
  ·simp only[hi,if_false] at hk;exact⟨_,_,_,.fR hb (by intro i2 hi2;cases hi2;exact hi),hk⟩
 |ret=>exact⟨_,_,_,.fR hb (by intro i hi;cases hi),hk⟩
 |panic v=>exact⟨_,_,_,.fR hb (by intro i hi;cases hi),hk⟩
end
abbrev H3(O X I:Option cw):Heap:=⟨3,.node (.node .nil X .nil) O (.node .nil I .nil)⟩
theorem Mh{b:Nat}{O X I:Option cw}{x:cw}(h:(H3 O X I).get b=some x):(b=0∧O=some x)∨(b=1∧X=some x)∨(b=2∧I=some x):=by
 match b,h with
 |0,h=>exact .inl ⟨rfl,h⟩
 |1,h=>exact .inr (.inl ⟨rfl,h⟩)
 |2,h=>exact .inr (.inr ⟨rfl,h⟩)
 |b+3,h=>
  exfalso;rcases Nat.mod_two_eq_zero_or_one (b+3) with h2|h2
  ·have e1:Nat.beq ((b+3)/2-1) 0=false:=by
    cases hq:(b+3)/2-1 with
    |zero=>omega
    |succ n=>rfl
   simp only[Heap.get,Tr.get,h2,e1,show Nat.beq (b+3) 0=false from rfl,cond_false,show Nat.beq 0 1=false from rfl] at h;revert h;cases Nat.beq (((b+3)/2-1)%2) 1<;>simp
  ·have e1:Nat.beq ((b+3)/2) 0=false:=by
    cases hq:(b+3)/2 with
    |zero=>omega
    |succ n=>rfl
   simp only[Heap.get,Tr.get,h2,e1,show Nat.beq (b+3) 0=false from rfl,cond_false,show Nat.beq 1 1=true from rfl,cond_true] at h;revert h;cases Nat.beq (((b+3)/2)%2) 1<;>simp
theorem gc3{B:Nat}{e:Env}{h:Heap}{d:Nat}{l:List (Nat×AV)}{O X I:Option cw}(p:Nat→Nat)(hl:ja p 3 e l)
  (hO:∀x,O=some x→∃y,h.get (p 0)=some y∧ki p 3 x y)(hX:∀x,X=some x→∃y,h.get (p 1)=some y∧ki p 3 x y)(hI:∀x,I=some x→∃y,h.get (p 2)=some y∧ki p 3 x y)
  (Sx:p 0≠p 1)(Sy:p 0≠p 2)(h12:p 1≠p 2)(tB:∀b,b<B→p b=b)(hn:B≤3):GC B p e h (ek d l) (H3 O X I):=by
 refine⟨?_,?_,?_,tB,hn⟩
 ·intro i v hv;exact mY hl (oV d _ i v hv)
 ·intro b x hx;rcases Mh hx with⟨rfl,h1⟩|⟨rfl,h1⟩|⟨rfl,h1⟩
  ·exact⟨by show 0<3;omega,hO x h1⟩
  ·exact⟨by show 1<3;omega,hX x h1⟩
  ·exact⟨by show 2<3;omega,hI x h1⟩
 ·intro b c hb hc he;cases hx:(H3 O X I).get b with
  |none=>exact absurd hx hb
  |some x=>
   cases hy:(H3 O X I).get c with
   |none=>exact absurd hy hc
   |some y=>
    rcases Mh hx with⟨rfl,-⟩|⟨rfl,-⟩|⟨rfl,-⟩<;>rcases Mh hy with⟨rfl,-⟩|⟨rfl,-⟩|⟨rfl,-⟩<;>first|rfl|exact absurd he Sx|exact absurd he Sy|exact absurd he h12|exact absurd he.symm Sx|exact absurd he.symm Sy|exact absurd he.symm h12
theorem Vq{fs:Nat→Option aC}{ms:Nat→String→Option Nat}{B:Nat}{rd:Bool}{c:AC}{e:Env}{h:Heap}{Q:AX→Env→Heap→Prop}{d:Nat}{l:List (Nat×AV)}{O X I:Option cw}(p:Nat→Nat)(hl:ja p 3 e l)
  (hO:∀x,O=some x→∃y,h.get (p 0)=some y∧ki p 3 x y)(hX:∀x,X=some x→∃y,h.get (p 1)=some y∧ki p 3 x y)(hI:∀x,I=some x→∃y,h.get (p 2)=some y∧ki p 3 x y)
  (Sx:p 0≠p 1)(Sy:p 0≠p 2)(h12:p 1≠p 2)(tB:∀b,b<B→p b=b)(hn:B≤3)(hw:VC fs ms B rd c (ek d l) (H3 O X I) Q):VC fs ms B rd c e h Q:=
 BH (gc3 p hl hO hX hI Sx Sy h12 tB hn) hw
def Vs(O:Option cw):Prop:=∀x,O=some x→∃M s,x=.cells M true s∧iy M=true
theorem Sv{O:Option cw}{p:Nat→Nat}{n:Nat}{h:Heap}{b:Nat}(hc:Vs O)(hg:h.get b=O):∀x,O=some x→∃y,h.get b=some y∧ki p n x y:=by
 intro x hx;obtain⟨M,s,rfl,hM⟩:=hc x hx;exact⟨_,hg.trans hx,Ec rfl hM⟩
theorem U1{h:Heap}{b:Nat}{p:Nat→Nat}{n:Nat}:∀x,(none:Option cw)=some x→∃y,h.get b=some y∧ki p n x y:=by
 intro x hx;cases hx
theorem S6{h:Heap}{b:Nat}{p:Nat→Nat}{n:Nat}{z:cw}(hg:∃y,h.get b=some y∧ki p n z y):∀x,some z=some x→∃y,h.get b=some y∧ki p n x y:=by
 intro x hx;cases hx
 exact hg
theorem Vd{p:Nat→Nat}{n es:Nat}{wr:Bool}{a b c a' b' c':AV}(h1:qG p n a a')(h2:qG p n b b')(h3:qG p n c c'):ki p n (.cells [a,b,c] wr es) (.cells [a',b',c'] wr es):=by
 refine .cells rfl fun i x y hx hy=>?_
 match i,hx,hy with
 |0,hx,hy=>cases hx;cases hy;exact h1
 |1,hx,hy=>cases hx;cases hy;exact h2
 |2,hx,hy=>cases hx;cases hy;exact h3
def TA(b:Nat):Nat→AV
 |0=>.aN
 |j+1=>.sl b 0 (j+1) (j+1) true
def Tz(s:Nat)(L:List AV):Nat→Option cw
 |0=>none
 |j+1=>some (.cells (aj (L.take (j+1))) true s)
theorem DC:∀{l:List AV},iy l=true→iy (aj l)=true
 |[],_=>rfl
 |x::l,h=>by
  simp only[iy,Bool.and_eq_true] at h;exact pF (mO h.1) (DC h.2)
theorem I6{l:List AV}(h:iy l=true)(j:Nat):iy (l.take j)=true:=by
 induction l generalizing j with
 |nil=>simp[iy]
 |cons x l ih=>
  simp only[iy,Bool.and_eq_true] at h;cases j with
  |zero=>rfl
  |succ j=>simp only[List.take_succ_cons,iy,h.1,Bool.true_and];exact ih h.2 j
theorem TB{s:Nat}{L:List AV}(h:iy L=true):∀j,Vs (Tz s L j)
 |0,x,hx=>by cases hx
 |j+1,x,hx=>by
  cases hx
  exact⟨_,_,rfl,DC (I6 h _)⟩
theorem TD{p:Nat→Nat}{n b c:Nat}(hp:p b=c)(hb:b<n):∀j,qG p n (TA b j) (TA c j)
 |0=>.cl rfl
 |j+1=>by
  subst hp;exact .sl hb
theorem TC{P:Nat→Prop}{g:Heap}{b s:Nat}{L:List AV}(hs:aU s L=true)(hc:iy L=true)(hP:P b):∀n,n=L.length→g.get b=Tz s L n→lX P g (TA b n) (.fz (Gx n) L)
 |0,h,_=>by
  have:L=[]:=List.length_eq_zero_iff.1 h.symm;subst this;exact .aN
 |n+1,h,hg=>by
  refine lE (b:=b) (s:=s) (wr:=true) (es:=s) (vs:=aj L) hP ?_ rfl hs h hc;rw[hg,Tz,h,List.take_length]
theorem kQ:∀{l:List AV} {s:Nat},aU s l=true→(aj l).length=l.length*s
 |[],s,_=>by simp[aj]
 |x::l,s,h=>by
  simp only[aU,Bool.and_eq_true] at h;have:=Nat.eq_of_beq_eq_true h.1;show(x.cells++aj l).length=_;rw[List.length_append,kQ h.2,List.length_cons,this,Nat.succ_mul];omega
theorem AG:∀(l m:List AV),aj (l++m)=aj l++aj m
 |[],m=>rfl
 |x::l,m=>by
  show x.cells++aj (l++m)=(x.cells++aj l)++aj m;rw[AG l m,List.append_assoc]
theorem size_take{l:List AV}{s:Nat}(h:aU s l=true)(j:Nat):aU s (l.take j)=true:=by
 induction l generalizing j with
 |nil=>simp[aU]
 |cons x l ih=>
  simp only[aU,Bool.and_eq_true] at h;cases j with
  |zero=>rfl
  |succ j=>simp only[List.take_succ_cons,aU,h.1,Bool.true_and];exact ih h.2 j
theorem OU{s bytes nx:Nat}{tr:Tr cw}{b:Nat}{x:AV}{cs:List AV}(hs:eC s ⟨nx,tr⟩ x=some (0,cs))(hf:bE cs=true):
  eV (.append s bytes) [.sl b 0 0 0 false,x] ⟨nx,tr⟩=some (.sl b 0 0 0 false,⟨nx,tr⟩):=by
 simp only[eV,l2,hs];show cond (bE cs) _ _=_;rw[hf,cond_true];rfl
theorem Su{s bytes nx n:Nat}{tr:Tr cw}{b:Nat}{x:AV}{cs:List AV}{wr:Bool}{es:Nat}(hg:Heap.get ⟨nx,tr⟩ b=some (.cells [] wr es))(hb:bytes≤1048576)(hn:n≤1048576)(hs:eC s ⟨nx,tr⟩ x=some (n+1,cs))(hf:bE cs=true):
  eV (.append s bytes) [.sl b 0 0 0 false,x] ⟨nx,tr⟩=some (.sl nx 0 (n+1) (n+1) true,⟨nx+1,Tr.set tr nx (.cells cs true s)⟩):=by
 have hl:Heap.aO ⟨nx,tr⟩ b 0 (0*s)=some []:=by
  rw[iV hg (by simp)];simp
 have hm:(n+1)*bytes≤1048577*1048576:=Nat.mul_le_mul (by omega) hb;have b2:Nat.ble ((0+(n+1))*bytes) 140737488355328=true:=Nat.ble_eq_true_of_le (by rw[Nat.zero_add];omega);have b3:Nat.ble (0+(n+1)) 9223372036854775807=true:=Nat.ble_eq_true_of_le (by omega);have b4:Nat.beq (n+1) 0=false:=rfl;have b1:Nat.ble (0+(n+1)) 0=false:=by
  cases hb:Nat.ble (0+(n+1)) 0 with
  |false=>rfl
  |true=>have:=Nat.le_of_ble_eq_true hb;omega
 simp only[eV,l2,hs];show cond (bE cs) _ _=_;rw[hf,cond_true,b4,Bool.false_and,cond_false,b1,cond_false,b2,b3,Bool.and_self,cond_true,hg,hl];simp only[cond_false,Nat.zero_add];rfl
theorem Er{s bytes nx:Nat}{tr:Tr cw}{x:AV}{cs:List AV}(hs:eC s ⟨nx,tr⟩ x=some (0,cs))(hf:bE cs=true):
  eV (.append s bytes) [.aN,x] ⟨nx,tr⟩=some (.aN,⟨nx,tr⟩):=by
 simp only[eV,l2,hs];show cond (bE cs) _ _=_;rw[hf,cond_true];rfl
theorem sW{s bytes nx n:Nat}{tr:Tr cw}{x:AV}{cs:List AV}(hb:bytes≤1048576)(hn:n≤1048576)(hs:eC s ⟨nx,tr⟩ x=some (n+1,cs))(hf:bE cs=true):
  eV (.append s bytes) [.aN,x] ⟨nx,tr⟩=some (.sl nx 0 (n+1) (n+1) true,⟨nx+1,Tr.set tr nx (.cells cs true s)⟩):=by
 have hm:(n+1)*bytes≤1048577*1048576:=Nat.mul_le_mul (by omega) hb;have b2:Nat.ble ((n+1)*bytes) 140737488355328=true:=Nat.ble_eq_true_of_le (by omega);have b3:Nat.ble (n+1) 9223372036854775807=true:=Nat.ble_eq_true_of_le (by omega);have b4:Nat.beq (n+1) 0=false:=rfl;simp only[eV,l2,hs];show cond (bE cs) _ _=_;rw[hf,cond_true,b4,cond_false,b2,b3,Bool.and_self,cond_true];rfl
theorem Vj{s k:Nat}{l:List AV}{h:Heap}(hs:aU s l=true):eC s h (.fz k l)=some (l.length,aj l):=by
 simp only[eC,hs,cond_true]
theorem S9{fs:Nat→Option aC}{ms:Nat→String→Option Nat}{f:Nat}{args args':List AV}{h H:Heap}{Q:AV→Heap→Prop}(bs:List Nat)(hH:gZ bs h=H)(hf:nk (· ∈bs) h args args')(hw:VD fs ms f args' H Q):VD fs ms f args h Q:=
 NP bs hf (hH▸hw)
end Ads
end Go.Proofs.Ytenafeojcgmnhaa
namespace Go.Proofs.Ytenafeojcgmnhaa
open Go Ads
namespace Ads
theorem ez{α:Type}:∀(l:List α) (o:Nat),Heap.splice l o []=l
 |[],0=>rfl
 |[],o+1=>rfl
 |x::l,0=>rfl
 |x::l,o+1=>by
  show x::Heap.splice l o []=_;rw[ez l o]
theorem uh{α:Type}:∀(xs r:List α),xs.length≤r.length→Heap.splice r 0 xs=xs++r.drop xs.length
 |[],r,_=>by rw[ez];simp
 |x::xs,[],h=>by simp at h
 |x::xs,y::r,h=>by
  show x::Heap.splice r 0 xs=_;rw[uh xs r (by simpa using h)];rfl
theorem v9{α:Type}:∀(a r xs:List α),xs.length≤r.length→Heap.splice (a++r) a.length xs=a++xs++r.drop xs.length
 |[],r,xs,h=>by simpa using uh xs r h
 |x::a,r,[],h=>by rw[ez];simp
 |x::a,r,y::xs,h=>by
  show x::Heap.splice (a++r) a.length (y::xs)=_;rw[v9 a r (y::xs) h];rfl
theorem Jw{P:Nat→Prop}{g:Heap}{b n cap s:Nat}{op:Bool}{l rest vs:List AV}{wr:Bool}{es:Nat}(hb:P b)(hg:g.get b=some (.cells vs wr es))(hv:vs=aj l++rest)(hs:aU s l=true)
  (hn:n=l.length)(hcap:n≤cap)(kK:iy l=true):lX P g (.sl b 0 n cap op) (.fz 0 l):=by
 subst hv;have hf:=jZ hs;refine .sl hb hg hs hn (by rw[List.length_append,hf.1];omega) hcap (by omega) (fun h=>by omega) (fun h=>by omega) ?_;intro i x j c y hx hc hy;rw[Nat.zero_add] at hy;have e1:=cU hs hx;have l1:=(List.getElem?_eq_some_iff.1 hc).1;have l0:=(List.getElem?_eq_some_iff.1 hx).1;have hlt:i*s+j<(aj l).length:=by
  rw[hf.1]
  calc i*s+j<i*s+s:=by omega
   _=(i+1)*s:=(Nat.succ_mul i s).symm
   _≤l.length*s:=Nat.mul_le_mul_right _ l0
 rw[List.getElem?_append_left hlt] at hy;rw[rO hs hx hc] at hy;cases hy
 exact .clean (fU (mO (fU kK hx)) hc)
theorem Lz{s bytes nx:Nat}{tr:Tr cw}{b m cap es:Nat}{op:Bool}{l rest vs:List AV}{x y:AV}(hg:Heap.get ⟨nx,tr⟩ b=some (.cells vs true es))(hv:vs=aj l++rest)(hs:aU s l=true)(hm:m=l.length)
  (hcap:m<cap)(hr:rest.length=(cap-m)*s)(hsrc:eC s ⟨nx,tr⟩ x=some (1,y.cells))(hy:y.cells.length=s)(hf:bE y.cells=true):
  eV (.append s bytes) [.sl b 0 m cap op,x] ⟨nx,tr⟩=some (.sl b 0 (m+1) cap op,⟨nx,Tr.set tr b (.cells (aj (l++[y])++rest.drop s) true es)⟩):=by
 subst hv hm;have b1:Nat.ble (l.length+1) cap=true:=Nat.ble_eq_true_of_le hcap;have b4:Nat.beq 1 0=false:=rfl;have hfl:=(jZ hs).1;have Cu:s≤rest.length:=by
  rw[hr]
  calc s=1*s:=(Nat.one_mul s).symm
   _≤_:=Nat.mul_le_mul_right _ (by omega)
 have hb:Nat.ble (0+l.length*s+y.cells.length) (aj l++rest).length=true:=Nat.ble_eq_true_of_le (by rw[List.length_append,hfl,hy];omega);have hst:Heap.cW ⟨nx,tr⟩ b (0+l.length*s) y.cells=some ⟨nx,Tr.set tr b (.cells (aj (l++[y])++rest.drop s) true es)⟩:=by
  simp only[Heap.cW,hg,hb,hf,Bool.and_self,cond_true];have:Heap.splice (aj l++rest) (0+l.length*s) y.cells=aj (l++[y])++rest.drop s:=by
   rw[Nat.zero_add,←hfl,v9 _ _ _ (by omega),AG,hy];simp[aj]
  rw[this];rfl
 simp only[eV,l2,hsrc];show cond (bE y.cells) _ _=_;rw[hf,cond_true,b4,Bool.false_and,cond_false,b1,cond_true,hst];rfl
end Ads
end Go.Proofs.Ytenafeojcgmnhaa
namespace Go.Proofs.Ytenafeojcgmnhaa
open Go Ads
namespace Ir
theorem Gj(k k':Nat)(a b:List Int)(hl:a.length<2^62)(hl':b.length<2^62):PC fs ms 20 [.fz k (ints a),.fz k' (ints b)] (.bool (a==b)):=by
 refine j9 (by simp[iy,AV.cl,kG]) rfl ?_;refine aE (af:=RD) false rfl (Nat.le_of_ble_eq_true rfl) ?_;generalize hQ:(fun(u:AV) (_:Heap)=>u=.bool (a==b))=Q;conv=>whnf
 refine br (fun hc=>?_) (fun hc=>?_)<;>(try rw[hc])<;>(conv=>whnf)
 ·subst hQ;simp[ck] at hc;have:(a==b)=false:=by
   rw[beq_eq_false_iff_ne];rintro rfl;simp at hc
  rw[this]
 ·have hab:a.length=b.length:=by simp[ck] at hc;omega
  refine De 5 [(5,.int .i64 (0:Nat)),(0,.fz k (ints a)),(1,.fz k' (ints b))] (by repeat' (first|exact trivial|refine Bw rfl (by omega) ?_|refine ya rfl (by omega) ?_|refine ug rfl (by omega) ?_|refine oU rfl (by first|rfl|simp[iy,AV.cl,kG]) ?_|refine oU (aS (by omega)) rfl ?_)) ?_;refine Jv 5 a.length (fun j=>a.take j=b.take j) (fun j=>[(5,.int .i64 (j:Nat)),(0,.fz k (ints a)),(1,.fz k' (ints b))]) ?_ ?_ rfl
  ·intro j hj hi;conv=>whnf
   refine br (fun hc=>?_) (fun hc=>?_)<;>(try rw[hc])<;>(conv=>whnf)
   ·refine⟨_,zb hj,?_⟩;conv=>whnf
    refine⟨_,zb (hab▸hj),?_⟩;conv=>whnf
    refine br (fun hc=>?_) (fun hc=>?_)<;>(try rw[hc])<;>(conv=>whnf)
    ·subst hQ;have:(a==b)=false:=by
      rw[beq_eq_false_iff_ne];rintro rfl;simp at hc
     rw[this]
    ·have he:a[j]=b[j]'(hab▸hj):=by simpa using hc
     refine⟨?_,oU (aS (by omega)) rfl (by repeat' (first|exact trivial|refine Bw rfl (by omega) ?_|refine ya rfl (by omega) ?_|refine ug rfl (by omega) ?_|refine oU rfl (by first|rfl|simp[iy,AV.cl,kG]) ?_|refine oU (aS (by omega)) rfl ?_))⟩;rw[List.take_succ_eq_append_getElem hj,List.take_succ_eq_append_getElem (hab▸hj),hi,he]
   ·simp[ck] at hc;omega
  ·intro hi;conv=>whnf
   refine br (fun hc=>?_) (fun hc=>?_)<;>(try rw[hc])<;>(conv=>whnf)
   ·simp[ck] at hc
   ·subst hQ;have:a=b:=by rw[List.take_length] at hi;rw[hi,hab,List.take_length]
    subst this;simp
theorem jg(k k':Nat)(a:List Int)(hl:a.length<2^62):PC fs ms 20 [.fz k (ints a),.fz k' (ints a)] (.bool true):=by
 have:=Gj k k' a a hl hl;simpa using this
def eR(i n:Int):Int:=i%n
theorem gP(i n:Int)(hn:0<n)(hn2:n<2^62):PC fs ms 13 [.int .i64 i,.int .i64 n] (.int .i64 (eR i n)):=by
 refine j9 rfl rfl ?_;refine aE (af:=RC) false rfl (Nat.le_of_ble_eq_true rfl) ?_;generalize hQ:(fun(v:AV) (_:Heap)=>v=.int .i64 (eR i n))=Q;conv=>whnf
 refine⟨_,nN _ _ (by omega),?_⟩;conv=>whnf
 have h1:i.tmod n=if 0≤i∨n∣i then i%n else i%n-n:=by
  rw[Int.tmod_eq_emod];split<;>simp<;>omega
 have h2:=Int.emod_nonneg i (show n≠0 by omega);have h3:=Int.emod_lt_of_pos i hn;refine br (fun hc=>?_) (fun hc=>?_)<;>(try rw[hc])<;>(conv=>whnf)
 ·subst hQ;simp only[decide_eq_true_eq] at hc;split at h1
  ·omega
  ·rw[h1,IntWalk.i64_in _ (by omega)];simp only[eR]
   congr 1
   omega
 ·subst hQ;simp only[decide_eq_false_iff_not] at hc;split at h1
  ·rw[h1];rfl
  ·omega
end Ir
end Go.Proofs.Ytenafeojcgmnhaa
namespace Go.Proofs.Ytenafeojcgmnhaa
open Go Ads
namespace Ads
abbrev H8(a0 a1 a2 a3 a4 a5 a6 a7:Option cw):Heap:=⟨8,.node (.node (.node (.node .nil a7 .nil) a3 .nil) a1 (.node .nil a5 .nil)) a0 (.node (.node .nil a4 .nil) a2 (.node .nil a6 .nil))⟩
def D4(a0 a1 a2 a3 a4 a5 a6 a7:Option cw):Nat→Option cw
 |0=>a0|1=>a1|2=>a2|3=>a3|4=>a4|5=>a5|6=>a6|7=>a7|_=>none
theorem get_nil(b:Nat):Tr.get (.nil:Tr cw) b=none:=by simp[Tr.get]
theorem rW{a:Option cw}{b:Nat}(h:0<b):Tr.get (.node .nil a .nil:Tr cw) b=none:=by
 rcases Nat.mod_two_eq_zero_or_one b with h2|h2
 ·rw[Tr.fu _ _ h2 (by omega)];exact get_nil _
 ·rw[Tr.iE _ _ h2];exact get_nil _
theorem Gu{a a':Option cw}{b:Nat}(h:1<b):Tr.get (.node (.node .nil a' .nil) a .nil:Tr cw) b=none:=by
 rcases Nat.mod_two_eq_zero_or_one b with h2|h2
 ·rw[Tr.fu _ _ h2 (by omega)];exact get_nil _
 ·rw[Tr.iE _ _ h2];exact rW (b:=b/2) (by omega)
theorem Pu{a0 a1 a2 a3 a4 a5 a6 a7:Option cw}(b:Nat):(H8 a0 a1 a2 a3 a4 a5 a6 a7).get b=D4 a0 a1 a2 a3 a4 a5 a6 a7 b:=by
 by_cases h8:b<8
 ·match b,h8 with
  |0,_=>rfl
  |1,_=>rfl
  |2,_=>rfl
  |3,_=>rfl
  |4,_=>rfl
  |5,_=>rfl
  |6,_=>rfl
  |7,_=>rfl
 ·have hp:D4 a0 a1 a2 a3 a4 a5 a6 a7 b=none:=by
   match b,h8 with
   |b+8,_=>rfl
  rw[hp];show Tr.get (.node (.node (.node (.node .nil a7 .nil) a3 .nil) a1 (.node .nil a5 .nil)) a0 (.node (.node .nil a4 .nil) a2 (.node .nil a6 .nil))) b=none;rcases Nat.mod_two_eq_zero_or_one b with h2|h2
  ·rw[Tr.fu _ _ h2 (by omega)];rcases Nat.mod_two_eq_zero_or_one (b/2-1) with h3|h3
   ·rw[Tr.fu _ _ h3 (by omega)];exact rW (b:=(b/2-1)/2-1) (by omega)
   ·rw[Tr.iE _ _ h3];exact rW (b:=(b/2-1)/2) (by omega)
  ·rw[Tr.iE _ _ h2];rcases Nat.mod_two_eq_zero_or_one (b/2) with h3|h3
   ·rw[Tr.fu _ _ h3 (by omega)];exact rW (b:=b/2/2-1) (by omega)
   ·rw[Tr.iE _ _ h3];exact Gu (b:=b/2/2) (by omega)
theorem gc8{B:Nat}{e:Env}{h:Heap}{d:Nat}{l:List (Nat×AV)}{a0 a1 a2 a3 a4 a5 a6 a7:Option cw}(p:Nat→Nat)(hl:ja p 8 e l)
  (hb:∀b x,D4 a0 a1 a2 a3 a4 a5 a6 a7 b=some x→∃y,h.get (p b)=some y∧ki p 8 x y)
  (hi:∀b,b<8→∀c,c<8→p b=p c→b=c)(tB:∀b,b<B→p b=b)(hn:B≤8):GC B p e h (ek d l) (H8 a0 a1 a2 a3 a4 a5 a6 a7):=by
 have hlt:∀b,(H8 a0 a1 a2 a3 a4 a5 a6 a7).get b≠none→b<8:=by
  intro b hb;rw[Pu] at hb
  match b,hb with
  |0,_=>omega
  |1,_=>omega
  |2,_=>omega
  |3,_=>omega
  |4,_=>omega
  |5,_=>omega
  |6,_=>omega
  |7,_=>omega
  |b+8,hb=>exact absurd rfl hb
 refine⟨?_,?_,?_,tB,hn⟩
 ·intro i v hv;exact mY hl (oV d _ i v hv)
 ·intro b x hx;have PF:b<8:=hlt b (by rw[hx];exact fun h=>by cases h);rw[Pu] at hx;exact⟨PF,hb b x hx⟩
 ·intro b c hb hc he;exact hi b (hlt b hb) c (hlt c hc) he
theorem Wo{P:Nat→cw→Prop}{a0 a1 a2 a3 a4 a5 a6 a7:Option cw}(h0:∀x,a0=some x→P 0 x)(h1:∀x,a1=some x→P 1 x)(h2:∀x,a2=some x→P 2 x)(h3:∀x,a3=some x→P 3 x)(h4:∀x,a4=some x→P 4 x)(h5:∀x,a5=some x→P 5 x)
  (h6:∀x,a6=some x→P 6 x)(h7:∀x,a7=some x→P 7 x):∀b x,D4 a0 a1 a2 a3 a4 a5 a6 a7 b=some x→P b x
 |0,x,h=>h0 x h
 |1,x,h=>h1 x h
 |2,x,h=>h2 x h
 |3,x,h=>h3 x h
 |4,x,h=>h4 x h
 |5,x,h=>h5 x h
 |6,x,h=>h6 x h
 |7,x,h=>h7 x h
 |b+8,x,h=>by cases h
theorem Ro{O:Option cw}{p:Nat→Nat}{n:Nat}{h:Heap}{b:Nat}(hg:h.get b=O)(hr:∀x,O=some x→ki p n x x):∀x,O=some x→∃y,h.get b=some y∧ki p n x y:=fun x hx=>⟨x,hg.trans hx,hr x hx⟩
theorem Vc{p:Nat→Nat}{n es:Nat}{wr:Bool}{a b a' b':AV}(h1:qG p n a a')(h2:qG p n b b'):ki p n (.cells [a,b] wr es) (.cells [a',b'] wr es):=by
 refine .cells rfl fun i x y hx hy=>?_
 match i,hx,hy with
 |0,hx,hy=>cases hx;cases hy;exact h1
 |1,hx,hy=>cases hx;cases hy;exact h2
end Ads
end Go.Proofs.Ytenafeojcgmnhaa
namespace Go.Proofs.Ytenafeojcgmnhaa
open Go Ads
namespace Ads
theorem fQ{h:Heap}{b o n es:Nat}{vs:List AV}{v:AV}(hg:h.get b=some (.cells vs true es))(hn:v.cells.length=n)(hl:o+n≤vs.length)(hf:bE v.cells=true):
  eV (.store n) [.ptr b o,v] h=some (.undef,h.set b (.cells (Heap.splice vs o v.cells) true es)):=by
 have b1:Nat.beq v.cells.length n=true:=by rw[hn];exact Nat.beq_refl n
 have b2:Nat.ble (o+v.cells.length) vs.length=true:=Nat.ble_eq_true_of_le (by omega);show cond (Nat.beq v.cells.length n) ((h.cW b o v.cells).map fun h=>(AV.undef,h)) none=_;rw[b1,cond_true];simp only[Heap.cW,hg,b2,hf,Bool.and_self,cond_true];rfl
theorem xJ{h:Heap}{b c:Nat}{x:cw}:(h.set b x).get c=if c=b then some x else h.get c:=Tr.bt _ _ _ _
theorem aV{h:Heap}{b:Nat}{x:cw}:(h.set b x).get b=some x:=by rw[xJ,if_pos rfl]
theorem bw{h:Heap}{b c:Nat}{x:cw}(hn:c≠b):(h.set b x).get c=h.get c:=by rw[xJ,if_neg hn]
theorem aB{h:Heap}{x:cw}:(h.new x).get h.next=some x:=by rw[Heap.bU,if_pos rfl]
theorem aH{h:Heap}{c:Nat}{x:cw}(hn:c<h.next):(h.new x).get c=h.get c:=by rw[Heap.bU,if_neg (by omega)]
theorem bu{b o n j s:Nat}(h:j<n):pV (.bV s n) [.ptr b o,.int .i64 (j:Nat)]=some (.ptr b (o+j*s)):=by
 have b1:Nat.ble (j+1) n=true:=Nat.ble_eq_true_of_le h;simp only[pV,l2,rJ];show cond (Nat.ble (j+1) n) (some (AV.ptr b (o+j*s))) none=_;rw[b1,cond_true]
theorem bh{b n cap j s:Nat}{op:Bool}(h:j<n):pV (.ak s) [.sl b 0 n cap op,.int .i64 (j:Nat)]=some (.ptr b (j*s)):=by
 have b1:Nat.ble (j+1) n=true:=Nat.ble_eq_true_of_le h;simp only[pV,l2,rJ];show cond (Nat.ble (j+1) n) (some (AV.ptr b (0+j*s))) none=_;rw[b1,cond_true,Nat.zero_add]
structure Fr(h h':Heap)(bs:List Nat):Prop where
 next:h.next≤h'.next
 keep:∀b,b<h.next→b∉bs→h'.get b=h.get b
theorem Fr.refl(h:Heap)(bs:List Nat):Fr h h bs:=⟨Nat.le_refl _,fun _ _ _=>rfl⟩
theorem Fr.trans{h h1 h2:Heap}{bs:List Nat}(a:Fr h h1 bs)(b:Fr h1 h2 bs):Fr h h2 bs:=⟨Nat.le_trans a.next b.next,fun c hc hn=>(b.keep c (Nat.lt_of_lt_of_le hc a.next) hn).trans (a.keep c hc hn)⟩
theorem Fr.set{h h1:Heap}{bs:List Nat}{b:Nat}{x:cw}(a:Fr h h1 bs)(hb:b∈bs):Fr h (h1.set b x) bs:=⟨a.next,fun c hc hn=>by rw[bw (by intro e;subst e;exact hn hb)];exact a.keep c hc hn⟩
theorem Fr.new{h h1:Heap}{bs:List Nat}{x:cw}(a:Fr h h1 bs):Fr h (h1.new x) bs:=⟨Nat.le_succ_of_le a.next,fun c hc hn=>by rw[aH (Nat.lt_of_lt_of_le hc a.next)];exact a.keep c hc hn⟩
theorem Fr.Im{h h1:Heap}{bs:List Nat}{b:Nat}{x:cw}(a:Fr h h1 bs)(hb:h.next≤b):Fr h (h1.set b x) bs:=⟨a.next,fun c hc hn=>by rw[bw (by omega)];exact a.keep c hc hn⟩
end Ads
namespace Ir
abbrev Id:=Nat×Int
def ob(x:Id):AV:=.agg [.int .i64 (x.1:Nat),.int .i64 x.2]
def obs(L:List Id):List AV:=L.map ob
def oc(L:List Id):List AV:=aj (obs L)
theorem sL(L:List Id):aU 2 (obs L)=true:=jX (enc:=ob) (fun _=>rfl) L
theorem DU(L:List Id):(obs L).length=L.length:=List.length_map ..
theorem iX(L:List Id):(oc L).length=L.length*2:=by rw[oc,kQ (sL L),DU]
theorem HP{L:List Id}{i:Nat}(h:i<L.length):(oc L)[i*2+0]?=some (.int .i64 (L[i].1:Nat)):=
 rO (sL L) (x:=ob L[i]) (by rw[obs,List.getElem?_map,List.getElem?_eq_getElem h];rfl) rfl
theorem CE{L:List Id}{i:Nat}(h:i<L.length):(oc L)[i*2+1]?=some (.int .i64 L[i].2):=
 rO (sL L) (x:=ob L[i]) (by rw[obs,List.getElem?_map,List.getElem?_eq_getElem h];rfl) rfl
theorem zl{L:List Id}{i:Nat}(h:i<L.length)(rest:List AV):((oc L++rest).drop (i*2)).take 2=[.int .i64 (L[i].1:Nat),.int .i64 L[i].2]:=by
 have hl:=iX L;refine List.ext_getElem? fun k=>?_;rw[List.getElem?_take]
 match k with
 |0=>rw[if_pos (by omega),List.getElem?_drop,List.getElem?_append_left (by omega),HP h];rfl
 |1=>rw[if_pos (by omega),List.getElem?_drop,List.getElem?_append_left (by omega),CE h];rfl
 |k+2=>rw[if_neg (by omega)];rfl
theorem CG:∀(L:List Id) (i:Nat) (_:i<L.length) (x:Id) (rest:List AV),Heap.splice (oc L++rest) (i*2) [.int .i64 (x.1:Nat),.int .i64 x.2]=oc (L.set i x)++rest
 |y::L,0,_,x,rest=>by
  show AV.int .i64 (x.1:Nat)::AV.int .i64 x.2::Heap.splice (oc L++rest) 0 []=AV.int .i64 (x.1:Nat)::AV.int .i64 x.2::(oc L++rest);rw[ez]
 |y::L,i+1,h,x,rest=>by
  have ih:=CG L i (by simpa using h) x rest;show Heap.splice (AV.int .i64 (y.1:Nat)::AV.int .i64 y.2::(oc L++rest)) ((i+1)*2) _=AV.int .i64 (y.1:Nat)::AV.int .i64 y.2::(oc (L.set i x)++rest);rw[show(i+1)*2=i*2+1+1 by omega,←ih];rfl
def D5(P:Nat→Nat):List AV:=(List.range 64).map fun i=>.int .i64 ((P i:Nat):Int)
def iH(P:Nat→Nat)(i v:Nat):Nat→Nat:=fun j=>if j=i then v else P j
theorem nI(P:Nat→Nat):(D5 P).length=64:=by simp[D5]
theorem uI{P:Nat→Nat}{i:Nat}(h:i<64):(D5 P)[i]?=some (.int .i64 ((P i:Nat):Int)):=by
 simp[D5,List.getElem?_map,List.getElem?_range h]
theorem D6{P:Nat→Nat}{i:Nat}(h:i<64)(v:Nat)(a:AV):Heap.splice (a::D5 P) (1+i*1) [.int .i64 ((v:Nat):Int)]=a::D5 (iH P i v):=by
 rw[iG _ _ _ (by rw[List.length_cons,nI];omega),show 1+i*1=i+1 by omega,List.set_cons_succ]
 congr 1
 refine List.ext_getElem? fun k=>?_;rw[List.getElem?_set];by_cases hk:k<64
 ·rw[uI hk,uI hk,nI,if_pos h,iH];by_cases hki:i=k
  ·subst hki;simp
  ·rw[if_neg hki,if_neg (Ne.symm hki)]
 ·rw[List.getElem?_eq_none (by rw[nI];omega),List.getElem?_eq_none (by rw[nI];omega),nI,if_pos h];split
  ·omega
  ·rfl
structure mJ(h:Heap)(p r cap:Nat)(op:Bool)(L:List Id)(P:Nat→Nat)(rest:List AV):Prop where
 hp:h.get p=some (.cells (.sl r 0 L.length cap op::D5 P) true 0)
 hr:h.get r=some (.cells (oc L++rest) true 2)
 ne:p≠r
 lp:p<h.next
 lr:r<h.next
def ah(a b:Id):Bool:=decide (a.2<b.2)||(decide (a.2=b.2)&&decide (a.1<b.1))
theorem yw(a b:Id):PC fs ms 63 [ob a,ob b] (.bool (ah a b)):=by
 refine j9 rfl rfl ?_;refine aE (af:=R7) false rfl (Nat.le_of_ble_eq_true rfl) ?_;generalize hQ:(fun(u:AV) (_:Heap)=>u=.bool (ah a b))=Q;obtain⟨a1,a2⟩:=a;obtain⟨b1,b2⟩:=b;conv=>whnf
 refine br (fun hc=>?_) (fun hc=>?_)<;>(try rw[hc])<;>(conv=>whnf)
 ·subst hQ;have:a2<b2:=by simpa using hc
  simp[ah,this]
 ·have h1:¬a2<b2:=by simpa using hc
  refine br (fun hc=>?_) (fun hc=>?_)<;>(try rw[hc])<;>(conv=>whnf)
  ·have h2:a2=b2:=by simpa using hc
   subst hQ;subst h2;simp[ah]
  ·have h2:¬a2=b2:=by simpa using hc
   subst hQ;simp[ah,h1,h2]
theorem Bb{h:Heap}{p r cap:Nat}{op:Bool}{L:List Id}{P:Nat→Nat}{rest:List AV}{i:Nat}{x:Id}(hh:mJ h p r cap op L P rest)(hi:i<L.length)(hx:x.1<64)(hl:L.length<2^62){Q:AV→Heap→Prop}
  (hQ:∀h',mJ h' p r cap op (L.set i x) (iH P x.1 (i+1)) rest→Fr h h' [p,r]→Q (.cg []) h'):VD fs ms 64 [.ptr p 0,.int .i64 (i:Nat),ob x] h Q:=by
 refine aE (af:=R8) true rfl (Nat.le_of_ble_eq_true rfl) ?_;obtain⟨x1,x2⟩:=x;obtain⟨hp,hr,ne,lp,lr⟩:=hh;conv=>whnf
 refine⟨_,bQ (by rw[aH lp];exact hp) rfl,?_⟩;conv=>whnf
 refine⟨_,IS aB (Nat.le_refl _),?_⟩;conv=>whnf
 refine⟨_,bh hi,?_⟩;conv=>whnf
 have hlen:=iX L;refine⟨_,_,fQ (by rw[aH lr];exact hr) rfl (by rw[List.length_append];omega) rfl,?_⟩;conv=>whnf
 refine⟨_,bQ (by rw[bw (by omega)];exact aB) rfl,?_⟩;conv=>whnf
 rw[mg (by omega)];refine⟨_,bu (o:=1) hx,?_⟩;conv=>whnf
 have VR:=nI P;refine⟨_,_,fQ (by rw[bw ne,aH lp];exact hp) rfl (by rw[List.length_cons];show 1+x1*1+1≤_;simp only at hx;omega) rfl,?_⟩;conv=>whnf
 refine hQ _ ⟨?_,?_,ne,?_,?_⟩ ?_
 ·rw[aV];show some (cw.cells (Heap.splice _ (1+x1*1) [.int .i64 ((i+1:Nat):Int)]) true 0)=_;rw[D6 hx,List.length_set]
 ·rw[bw (Ne.symm ne),aV];show some (cw.cells (Heap.splice _ (i*2) [.int .i64 ((x1:Nat):Int),.int .i64 x2]) true 2)=_;have:=CG L i hi (x1,x2) rest;rw[this]
 ·exact Nat.lt_succ_of_lt lp
 ·exact Nat.lt_succ_of_lt lr
 ·exact(((Fr.refl _ _).new).set (by simp)).set (by simp)
end Ir
end Go.Proofs.Ytenafeojcgmnhaa
namespace Go.Proofs.Ytenafeojcgmnhaa
open Go Ads
namespace Ads
theorem cK{fs:Nat→Option aC}{ms:Nat→String→Option Nat}{B:Nat}{rd:Bool}{c:AC}{e:Env}{h:Heap}{Q:AX→Env→Heap→Prop}
  (hw:VC fs ms B rd c e h fun x e1 h1=>match x with|.normal=>VC fs ms B rd (.loop c) e1 h1 Q|x=>Q x e1 h1):VC fs ms B rd (.loop c) e h Q:=by
 obtain⟨x,e1,h1,hb,hk⟩:=hw;cases x with
 |normal=>
  obtain⟨x2,e2,h2,jh,hk2⟩:=hk;exact⟨_,_,_,.lI hb jh,hk2⟩
 |exit i=>exact⟨_,_,_,.cQ hb rfl,hk⟩
 |ret=>exact⟨_,_,_,.cQ hb rfl,hk⟩
 |panic v=>exact⟨_,_,_,.cQ hb rfl,hk⟩
theorem bA{o:wD}{args:List AV}{h h':Heap}{v:AV}{k:AV→Heap→Prop}(hs:eV o args h=some (v,h'))(hq:∀h1,h1=h'→k v h1):∃v h1,eV o args h=some (v,h1)∧k v h1:=⟨v,h',hs,hq h' rfl⟩
section
variable {fs:Nat→Option aC} {ms:Nat→String→Option Nat} {B:Nat} {rd:Bool}
theorem ri:∀{l1 l2:List bq} {e:Env} {h:Heap} {tr e1 h1 ye e2 h2},VS fs ms B (.ops rd l1 e h) (.ops tr e1 h1)→VS fs ms B (.ops rd l2 e1 h1) (.ops ye e2 h2)→∃Iy,VS fs ms B (.ops rd (l1++l2) e h) (.ops Iy e2 h2)
 |[],l2,e,h,tr,e1,h1,ye,e2,h2,a,b=>by
  cases a
  exact⟨_,b⟩
 |i::l1,l2,e,h,tr,e1,h1,ye,e2,h2,a,b=>by
  cases a with
  |off hw ha=>
   obtain⟨Iy,hc⟩:=ri ha b;exact⟨_,.off hw hc⟩
  |on hw ho hv ha=>
   obtain⟨Iy,hc⟩:=ri ha b;exact⟨_,.on hw ho hv hc⟩
theorem jx{l:List bq}{e:Env}{h:Heap}{K:Env→Heap→Prop}(n:Nat)(hw:VO fs ms B rd (l.take n) e h fun e1 h1=>VO fs ms B rd (l.drop n) e1 h1 K):VO fs ms B rd l e h K:=by
 obtain⟨tr,e1,h1,a,ye,e2,h2,b,hk⟩:=hw;obtain⟨Iy,hc⟩:=ri a b;rw[List.take_append_drop] at hc;exact⟨Iy,e2,h2,hc,hk⟩
theorem Dd{l:List bq}{e:Env}{h:Heap}{Q:AX→Env→Heap→Prop}(hw:VO fs ms B rd l e h fun e1 h1=>Q .normal e1 h1):VC fs ms B rd (.ops l) e h Q:=by
 obtain⟨tr,e1,h1,a,hk⟩:=hw;exact⟨_,_,_,.ops a,hk⟩
theorem VO.mono{l:List bq}{e:Env}{h:Heap}{K K':Env→Heap→Prop}(hc:VO fs ms B rd l e h K)(hq:∀e' h',K e' h'→K' e' h'):VO fs ms B rd l e h K':=by
 obtain⟨tr,e',h',hb,hk⟩:=hc;exact⟨tr,e',h',hb,hq e' h' hk⟩
theorem ng{c:bG}{a b:AC}{e:Env}{h:Heap}{Q:AX→Env→Heap→Prop}(hw:LX e c fun v=>match v with|.bool t=>xu t (VC fs ms B rd a e h Q) (VC fs ms B rd b e h Q)|_=>False):VC fs ms B rd (.cond c a b) e h Q:=by
 obtain⟨ha,hw⟩:=pJ hw;split at hw
 ·rename_i t ht;rcases gX hw with⟨rfl,h2⟩|⟨rfl,h2⟩
  ·obtain⟨x,e1,h1,hb,hk⟩:=h2;exact⟨_,_,_,.cond ha ht hb,hk⟩
  ·obtain⟨x,e1,h1,hb,hk⟩:=h2;exact⟨_,_,_,.cond ha ht hb,hk⟩
 ·exact hw.elim
end
end Ads
end Go.Proofs.Ytenafeojcgmnhaa
