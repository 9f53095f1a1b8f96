/-
  Rows in blocks: filled from the front, grown by append. What values of struct types are. Rows that grow while another one grows: three blocks, of which some may be missing. Rows that lie at a block's start, with room behind them. Small helpers of the document's answers: EqInts, CopyInts, Bring. Heaps of eight blocks, of which some may be missing. Heaps that are not known but for some blocks: how operations read and write them. Rank: ids with their keys, as cells; ahead, lay. Stops inside regions, loops and tests.
-/
import Derived.Test.YtmnolnoeibhjgaaGreatVsLoop
import Derived.KernelRfl
import Derived.Test.YtmnolnoeibhjgaaGreatVsLaw
import Derived.Test.YtmnolnoeibhjgaaGreatVsTop
import Derived.Test.YtmnolnoeibhjgaaGreatIrLink
set_option maxRecDepth 100000
set_option linter.unusedSimpArgs false
set_option linter.unusedVariables false
namespace Go.Proofs.YtmnolnoeibhjgaaGreat
open Go Ads
namespace Ads
theorem Kp{k:IntKind}(a b:Int)(hb:b≠0):pV (.bin .rem) [.int k a,.int k b]=some (.int k (a.tmod b)):=by
 simp[pV,Kh,l2,Cc,y6,jL,qT,hb]
theorem Us{k:IntKind}(a b:Int)(hb:b≠0):pV (.bin .quo) [.int k a,.int k b]=some (.int k (k.wrap (a.tdiv b))):=by
 simp[pV,Kh,l2,Cc,y6,jL,qT,hb]
theorem wrap_wrap(n:Int):IntKind.i64.wrap (IntKind.i64.wrap n)=IntKind.i64.wrap n:=by simp only[IntKind.wrap_i64];omega
theorem SX{n:Nat}(h:n<9223372036854775808):IntKind.i64.wrap (n:Int)=n:=IntWalk.i64_in _ (by omega)
theorem jS{P:Nat→Prop}{g:Heap}{b n s:Nat}{l vs:List AV}{wr:Bool}{es:Nat}(hb:P b)(hg:g.get b=some (.cells vs wr es))(hv:vs=ak l)(hs:aL s l=true)(hn:n=l.length)(ju:e9 l=true):
  jr P g (.sl b 0 n n true) (.fz 0 l):=
 .row (s:=s) hb hg hv hs hn (Nat.le_refl _) (by omega) (fun h=>by omega) (fun h=>by omega) ju
theorem By{p:Nat→Nat}{n:Nat}{e:Env}{i b o len cap:Nat}{op:Bool}{l:List (Nat×AV)}(h:Tr.get e i=some (.sl (p b) o len cap op))(hb:b<n)(hl:iS p n e l):iS p n e ((i,.sl b o len cap op)::l):=⟨⟨_,h,.sl hb⟩,hl⟩
section
variable {fs:Nat→Option aj} {ms:Nat→String→Option Nat} {B:Nat} {rd:Bool}
theorem bY{f:Nat}{af:aj}{args:List AV}{h:Heap}{Q:AV→Heap→Prop}(hf:fs f=some af)(hlen:args.length≤af.ntmps)
  (hw:lK af.ntmps args fun e=>VC fs ms h.next false af.body e h (y7 af.results Q)):VD fs ms f args h Q:=by
 rw[iY] at hw;exact Eo hf hlen hw
theorem an{a b:AC}{e:Env}{h:Heap}{Q:AX→Env→Heap→Prop}(z:Bool)
  (hw:Dj fs ms B rd z a e h fun x e1 h1=>match x with|.normal=>VC fs ms B rd b e1 h1 Q|x=>Q x e1 h1):VC fs ms B rd (.seq a b) e h Q:=by
 obtain⟨x,e1,h1,hb,hk⟩:=aa hw;cases x with
 |normal=>
  obtain⟨x2,e2,h2,gn,hk2⟩:=hk;exact⟨_,_,_,.wC hb gn,hk2⟩
 |exit i=>exact⟨_,_,_,.oz hb rfl,hk⟩
 |ret=>exact⟨_,_,_,.oz hb rfl,hk⟩
 |panic v=>exact⟨_,_,_,.oz hb rfl,hk⟩
end
theorem NY{B:Nat}{e:Env}{h H:Heap}{d n:Nat}{l:List (Nat×AV)}{m:List (Nat×bP)}(hH:H=hk n m)(p:Nat→Nat)(hl:iS p n e l)(hm:xD p n h m)
  (hp:∀b c,b∈m.map (·.1)→c∈m.map (·.1)→p b=p c→b=c)(tw:∀b,b<B→p b=b)(hn:B≤n):GC B p e h (ek d l) H:=by
 subst hH;exact Rf p hl hm hp tw hn
theorem PJ{fs:Nat→Option aj}{ms:Nat→String→Option Nat}{B:Nat}{rd:Bool}{c:AC}{e:Env}{h H:Heap}{Q:AX→Env→Heap→Prop}{d n:Nat}{l:List (Nat×AV)}{m:List (Nat×bP)}(hH:H=hk n m)(p:Nat→Nat)(hl:iS p n e l)(hm:xD p n h m)
  (hp:∀b c,b∈m.map (·.1)→c∈m.map (·.1)→p b=p c→b=c)(tw:∀b,b<B→p b=b)(hn:B≤n)(hw:VC fs ms B rd c (ek d l) H Q):VC fs ms B rd c e h Q:=by
 subst hH;exact Lw d l n m p hl hm hp tw hn hw
theorem G3(x:bP):(⟨1,.node .nil (some x) .nil⟩:Heap)=hk 1 [(0,x)]:=rfl
theorem XT(x y:bP):(⟨2,.node (.node .nil (some y) .nil) (some x) .nil⟩:Heap)=hk 2 [(0,x),(1,y)]:=by kernel_rfl
theorem RN(x y z:bP):(⟨3,.node (.node .nil (some y) .nil) (some x) (.node .nil (some z) .nil)⟩:Heap)=hk 3 [(0,x),(1,y),(2,z)]:=by kernel_rfl
theorem IG{fs:Nat→Option aj}{ms:Nat→String→Option Nat}{B:Nat}{g:bx}{ps:List Nat}{a b:AC}{e:Env}{h:Heap}{f:Nat}{first aO:List AV}{Q:AX→Env→Heap→Prop}(hao:dj e [g]=true)(vC:Env.ev e g=.func (.func f) first aO)
  (hw:VD fs ms f (first++(.yield h.next::aO)) (h.new (.loop 0 none e ps a b)) fun _ h2=>∃x st,h2.get h.next=some (.loop st (cU x) e ps a b)∧st≠1∧(∀v,x≠.panic v)∧Q x e (h2.set h.next (.loop 3 (cU x) e ps a b))):
  VC fs ms B false (.rangeFunc g ps a b) e h Q:=by
 obtain⟨v,h2,hb,x,st,h3,h4,h5,h6⟩:=hw;exact⟨x,e,_,.rangeFunc hao vC (hb B) h3 h4 h5,h6⟩
theorem IJ{fs:Nat→Option aj}{ms:Nat→String→Option Nat}{L:Nat}{args:List AV}{h:Heap}{cw:Option AX}{e:Env}{ps:List Nat}{a b:AC}{k:AV→Heap→Prop}(hg:h.get L=some (.loop 0 cw e ps a b))(hlen:args.length=ps.length)
  (hw:VC fs ms h.next true a (eW ps args e) h fun x e2 h2=>x=.normal∧∃bW,h2.get L=some (.loop 0 bW e ps a b)∧
   VC fs ms h.next true b e2 (h2.set L (.loop 1 bW e ps a b)) fun x e4 h4=>(∀v,x≠.panic v)∧(∃Ee mc,h4.get L=some (.loop Ee mc e ps a b))∧k (.bool x.bB) (h4.set L (.loop (bif x.bB then 0 else 2) (cU x) e ps a b))):
  ∃v h1,(∀B,VS fs ms B (.cK (.yield L) args h) (.val v h1))∧k v h1:=by
 obtain⟨x,e2,h2,hb,rfl,bW,h3,y,e4,h4,gn,h5,⟨Ee,mc,h6⟩,h7⟩:=hw;exact⟨_,_,fun B=>.yield hg hlen hb h3 gn h5 h6,h7⟩
theorem Qw{n d st:Nat}{cw:Option AX}{l:List (Nat×AV)}{ps:List Nat}{a b:AC}(h:∀x,x∈l→qQ id n x.2 x.2):j7 id n (.loop st cw (ek d l) ps a b) (.loop st cw (ek d l) ps a b):=by
 refine .loop fun i v hv=>⟨v,hv,?_⟩;have h1:=pz d _ i v hv;have:∀{l:List (Nat×AV)},(∀x,x∈l→qQ id n x.2 x.2)→kn l (fun _=>none) i=some v→qQ id n v v:=by
  intro l;induction l with
  |nil=>intro _ h;simp[kn] at h
  |cons p l ih=>
   intro h h2;obtain⟨j,w⟩:=p;simp only[kn] at h2;cases hb:Nat.beq i j with
   |false=>rw[hb] at h2;exact ih (fun x hx=>h x (List.mem_cons_of_mem _ hx)) h2
   |true=>rw[hb] at h2;simp only[cond_true,Option.some.injEq] at h2;subst h2;exact h _ List.mem_cons_self
 exact this h h1
theorem ny{c:Bool}{A B:Prop}(hc:c=true)(h:c=true→A):yZ c A B:=br h (fun h2=>by rw[hc] at h2;exact absurd h2 (by decide))
theorem k7{c:Bool}{A B:Prop}(hc:c=false)(h:c=false→B):yZ c A B:=br (fun h2=>by rw[hc] at h2;exact absurd h2 (by decide)) h
theorem brT{c:Bool}{A B:Prop}(hc:c=true)(h:A):yZ c A B:=br (fun _=>h) (fun h2=>by rw[hc] at h2;exact absurd h2 (by decide))
theorem brF{c:Bool}{A B:Prop}(hc:c=false)(h:B):yZ c A B:=br (fun h2=>by rw[hc] at h2;exact absurd h2 (by decide)) (fun _=>h)
theorem yD{p:Nat→Nat}{n:Nat}{e:Env}{i b o:Nat}{l:List (Nat×AV)}(h:Tr.get e i=some (.ptr (p b) o))(hb:b<n)(hl:iS p n e l):iS p n e ((i,.ptr b o)::l):=⟨⟨_,h,.ptr hb⟩,hl⟩
theorem uh{p:Nat→Nat}{n:Nat}{e:Env}{i b:Nat}{l:List (Nat×AV)}(h:Tr.get e i=some (.yield (p b)))(hb:b<n)(hl:iS p n e l):iS p n e ((i,.yield b)::l):=⟨⟨_,h,.yield hb⟩,hl⟩
def KY:Nat→AV
 |0=>.az
 |j+1=>.sl 0 0 (j+1) (j+1) true
def GI(s:Nat)(L:List AV):Nat→Heap
 |0=>⟨0,.nil⟩
 |j+1=>⟨1,.node .nil (some (.cells (ak (L.take (j+1))) true s)) .nil⟩
def cR:Nat→Nat
 |0=>3
 |_+1=>0
theorem Ri{P:Nat→Prop}{s:Nat}{L:List AV}(hs:aL s L=true)(hc:e9 L=true)(hP:P 0):∀n,n=L.length→jr P (GI s L n) (KY n) (.fz (cR n) L)
 |0,h=>by
  have:L=[]:=List.length_eq_zero_iff.1 h.symm;subst this;exact .az
 |n+1,h=>by
  refine jS (b:=0) (s:=s) (wr:=true) (es:=s) (vs:=ak L) hP ?_ rfl hs h hc;show(GI s L (n+1)).get 0=_;simp only[GI,h,List.take_length];rfl
def GJ(L:List Int):Nat→Heap
 |0=>⟨0,.nil⟩
 |j+1=>⟨1,.node .nil (some (.cells (ints (L.take (j+1))) true 1)) .nil⟩
theorem Qc{P:Nat→Prop}{L:List Int}(hP:P 0):∀n,n=L.length→jr P (GJ L n) (KY n) (.fz (cR n) (ints L))
 |0,h=>by
  have:L=[]:=List.length_eq_zero_iff.1 h.symm;subst this;exact .az
 |n+1,h=>by
  refine jS (b:=0) (s:=1) (wr:=true) (es:=1) (vs:=ints L) hP ?_ (th L).symm (tK L) (by rw[jW];exact h) (jK L);show(GJ L (n+1)).get 0=_;simp only[GJ,h,List.take_length];rfl
theorem uN{p:Nat→Nat}{n:Nat}{M vs:List AV}{wr:Bool}{es:Nat}(h:vs=M)(hc:e9 M=true):j7 p n (.cells M wr es) (.cells vs wr es):=by
 subst h;refine .cells rfl fun i x y hx hy=>?_;rw[hx] at hy;cases hy
 exact .cl (fm hc hx)
theorem Qv{p:Nat→Nat}{n:Nat}{M:List Int}{vs:List AV}{wr:Bool}{es:Nat}(h:vs=ints M):j7 p n (.cells (ints M) wr es) (.cells vs wr es):=uN h (jK M)
theorem QT{nx:Nat}{tr:Tr bP}{b n:Nat}{vs:List AV}{x:AV}{m:Int}(hg:Heap.get ⟨nx,tr⟩ b=some (.cells vs true 1))(hv:vs.length=n)(hn:n≤1048576)(hs:eY 1 ⟨nx,tr⟩ x=some (1,[.int .i64 m])):
  eV (.append 1 8) [.sl b 0 n n true,x] ⟨nx,tr⟩=some (.sl nx 0 (n+1) (n+1) true,⟨nx+1,Tr.set (Heap.del ⟨nx,tr⟩ b).m nx (.cells (vs++[.int .i64 m]) true 1)⟩):=by
 subst hv;have hl:Heap.bt ⟨nx,tr⟩ b 0 (vs.length*1)=some vs:=by
  rw[ez hg (by simp)];simp
 have b1:Nat.ble (vs.length+1) vs.length=false:=by
  cases hb:Nat.ble (vs.length+1) vs.length with
  |false=>rfl
  |true=>have:=Nat.le_of_ble_eq_true hb;omega
 have b2:Nat.ble ((vs.length+1)*8) 140737488355328=true:=Nat.ble_eq_true_of_le (by omega);have b3:Nat.ble (vs.length+1) 9223372036854775807=true:=Nat.ble_eq_true_of_le (by omega);have b4:Nat.beq 1 0=false:=rfl;have b5:Nat.beq vs.length (0+vs.length*1)=true:=by rw[Nat.zero_add,Nat.mul_one];exact Nat.beq_refl _
 have b6:Nat.beq vs.length vs.length=true:=Nat.beq_refl _;have b7:Nat.beq 1 1=true:=rfl;simp only[eV,l2,hs];show cond (bz [AV.int .i64 m]) _ _=_;rw[show bz [AV.int .i64 m]=true from rfl,cond_true,b4,Bool.false_and,cond_false,b1,cond_false,b2,b3,Bool.and_self,cond_true,hg,hl];simp only[b5,b6,b7,Bool.and_self,cond_true];rfl
theorem QS{nx:Nat}{tr:Tr bP}{x:AV}{m:Int}(hs:eY 1 ⟨nx,tr⟩ x=some (1,[.int .i64 m])):
  eV (.append 1 8) [.az,x] ⟨nx,tr⟩=some (.sl nx 0 1 1 true,⟨nx+1,Tr.set tr nx (.cells [.int .i64 m] true 1)⟩):=by
 simp only[eV,l2,hs];rfl
theorem Yw{b n cap j:Nat}{op:Bool}(h:j<n):pV (.aB 1) [.sl b 0 n cap op,.int .i64 (j:Nat)]=some (.ptr b j):=by
 have b1:Nat.ble (j+1) n=true:=Nat.ble_eq_true_of_le h;simp only[pV,l2,qw];show cond (Nat.ble (j+1) n) (some (AV.ptr b (0+j*1))) none=_;rw[b1,cond_true,Nat.zero_add,Nat.mul_one]
theorem PX{s bytes nx:Nat}{tr:Tr bP}{b n:Nat}{vs cs:List AV}{x:AV}(hg:Heap.get ⟨nx,tr⟩ b=some (.cells vs true s))(hv:vs.length=n*s)(hn:n≤1048576)(hb:bytes≤1048576)
  (hs:eY s ⟨nx,tr⟩ x=some (1,cs))(hf:bz cs=true):
  eV (.append s bytes) [.sl b 0 n n true,x] ⟨nx,tr⟩=some (.sl nx 0 (n+1) (n+1) true,⟨nx+1,Tr.set (Heap.del ⟨nx,tr⟩ b).m nx (.cells (vs++cs) true s)⟩):=by
 have hl:Heap.bt ⟨nx,tr⟩ b 0 (n*s)=some vs:=by
  rw[ez hg (by omega),List.drop_zero,←hv,List.take_length]
 have b1:Nat.ble (n+1) n=false:=by
  cases hb:Nat.ble (n+1) n with
  |false=>rfl
  |true=>have:=Nat.le_of_ble_eq_true hb;omega
 have hm:(n+1)*bytes≤1048577*1048576:=Nat.mul_le_mul (by omega) hb;have b2:Nat.ble ((n+1)*bytes) 140737488355328=true:=Nat.ble_eq_true_of_le (by omega);have b3:Nat.ble (n+1) 9223372036854775807=true:=Nat.ble_eq_true_of_le (by omega);have b4:Nat.beq 1 0=false:=rfl;have b5:Nat.beq vs.length (0+n*s)=true:=by rw[Nat.zero_add,hv];exact Nat.beq_refl _
 have b6:Nat.beq n n=true:=Nat.beq_refl _;have b7:Nat.beq s s=true:=Nat.beq_refl _;simp only[eV,l2,hs];show cond (bz cs) _ _=_;rw[hf,cond_true,b4,Bool.false_and,cond_false,b1,cond_false,b2,b3,Bool.and_self,cond_true,hg,hl];simp only[b5,b6,b7,Bool.and_self,cond_true];rfl
theorem Ey{s bytes nx:Nat}{tr:Tr bP}{x:AV}{cs:List AV}(hb:bytes≤1048576)(hs:eY s ⟨nx,tr⟩ x=some (1,cs))(hf:bz cs=true):
  eV (.append s bytes) [.az,x] ⟨nx,tr⟩=some (.sl nx 0 1 1 true,⟨nx+1,Tr.set tr nx (.cells cs true s)⟩):=by
 have b2:Nat.ble (1*bytes) 140737488355328=true:=Nat.ble_eq_true_of_le (by omega);simp only[eV,l2,hs];show cond (bz cs) _ _=_;rw[hf,cond_true];show cond (Nat.ble (1*bytes) 140737488355328&&true) _ _=_;rw[b2];rfl
theorem Dm:∀n:Nat,dN [.int .i64 0] n=ints (List.replicate n 0):=by
 intro n;induction n with
 |zero=>rfl
 |succ n ih=>
  show _=AV.int .i64 0::ints (List.replicate n 0);rw[←ih];rfl
theorem Uo{n:Nat}(hn:n≤17592186044416):aI (.eG [.int .i64 0] 1 8) [.int .i64 (n:Nat),.int .i64 (n:Nat)]=some (.cells (ints (List.replicate n 0)) true 0,fun b=>.sl b 0 n n false):=by
 have b1:Nat.ble n n=true:=Nat.ble_eq_true_of_le (Nat.le_refl _);have b2:Nat.ble (8*n) 140737488355328=true:=Nat.ble_eq_true_of_le (by omega);have b3:Nat.ble n 9223372036854775807=true:=Nat.ble_eq_true_of_le (by omega);show cond (Nat.ble n n&&Nat.ble (8*n) 140737488355328&&Nat.ble n 9223372036854775807) (some (bP.cells (dN [AV.int .i64 0] n) true 0,fun b=>AV.sl b 0 n n false)) none=_;rw[b1,b2,b3,Dm];rfl
def oT(ts:List Int)(j:Nat):List Int:=ts.take j++List.replicate (ts.length-j) 0
theorem vN(ts:List Int){j:Nat}(h:j≤ts.length):(oT ts j).length=ts.length:=by simp[oT];omega
theorem Q4(ts:List Int):oT ts ts.length=ts:=by simp[oT]
theorem P6(ts:List Int):oT ts 0=List.replicate ts.length 0:=by simp[oT]
theorem qn{α:Type}:∀(l:List α) (o:Nat) (x:α),o<l.length→Heap.splice l o [x]=l.set o x
 |[],o,x,h=>by simp at h
 |y::l,0,x,h=>by
  show x::Heap.splice l 0 []=_;have:Heap.splice l 0 []=l:=by cases l<;>rfl
  rw[this];rfl
 |y::l,o+1,x,h=>by
  show y::Heap.splice l o [x]=_;rw[qn l o x (by simpa using h)];rfl
theorem EO(ts:List Int){j:Nat}(h:j<ts.length):(oT ts j).set j ts[j]=oT ts (j+1):=by
 apply List.ext_getElem
 ·rw[List.length_set,vN ts (by omega),vN ts (by omega)]
 ·intro i h1 h2;rw[List.getElem_set];simp only[oT,List.getElem_append,List.length_take,List.getElem_take,List.getElem_replicate];by_cases e:j=i
  ·subst e;simp only[if_true];rw[dif_pos (by omega)]
  ·rw[if_neg e];by_cases e2:i<j
   ·rw[dif_pos (by omega),dif_pos (by omega)]
   ·rw[dif_neg (by omega),dif_neg (by omega)]
theorem Q5(ts:List Int){j:Nat}(h:j<ts.length){x:Int}(hx:x=ts[j]):Heap.splice (ints (oT ts j)) j [.int .i64 x]=ints (oT ts (j+1)):=by
 subst hx;rw[qn _ _ _ (by rw[jW,vN ts (by omega)];exact h),←EO ts h];simp[ints,List.map_set]
end Ads
end Go.Proofs.YtmnolnoeibhjgaaGreat
namespace Go.Proofs.YtmnolnoeibhjgaaGreat
open Go
namespace Ads
section
variable {P:Program}
def AK(t:TypeId):Bool:=match P.underlying t with
 |some (.int _)=>true
 |some .bool=>true
 |some .string=>true
 |some (.slice _)=>true
 |_=>false
def Dz(fs:Array Field):Nat→Bool
 |0=>true
 |n+1=>(match fs[n]? with|some f=>Nat.beq f.offset n&&AK (P:=P) f.type&&Nat.beq (P.cellsOf f.type) 1|none=>false)&&Dz fs n
theorem xT{fs:Array Field}:∀{n:Nat},Dz (P:=P) fs n=true→∀i,i<n→∃f,fs[i]?=some f∧f.offset=i∧AK (P:=P) f.type=true∧P.cellsOf f.type=1
 |0,_,i,hi=>by omega
 |n+1,h,i,hi=>by
  simp only[Dz,Bool.and_eq_true] at h;by_cases e:i=n
  ·subst e;have h1:=h.1;split at h1
   ·rename_i f hf;simp only[Bool.and_eq_true] at h1;exact⟨f,hf,Nat.eq_of_beq_eq_true h1.1.1,h1.1.2,Nat.eq_of_beq_eq_true h1.2⟩
   ·simp at h1
  ·exact xT h.2 i (by omega)
theorem Cs{t:TypeId}{x:AV}(h:dc P t x)(hf:AK (P:=P) t=true):x.cells=[x]:=by
 cases h with
 |struct h1=>simp[AK,h1] at hf
 |array h1=>simp[AK,h1] at hf
 |_=>rfl
theorem Ei{t:TypeId}{fs:Array Field}{x:AV}{n:Nat}(h:dc P t x)(hu:P.underlying t=some (.struct fs))(hc:P.cellsOf t=n)(hs:fs.size=n)(hf:Dz (P:=P) fs n=true):
  ∃cs:List AV,x=.agg cs∧cs.length=n∧∀(i:Nat) (f:Field) (y:AV),fs[i]?=some f→cs[i]?=some y→dc P f.type y:=by
 obtain⟨cs,ys,rfl,h1,h2,h3⟩:=Fx h hu;refine⟨cs,rfl,by omega,fun i f y T8 hy=>?_⟩;have hi:i<n:=by have:=(List.getElem?_eq_some_iff.1 hy).1;omega
 obtain⟨g,g1,g2,g3,g4⟩:=xT hf i hi;rw[g1] at T8;cases T8
 have hz:ys[i]?=some (ys[i]'(by omega)):=List.getElem?_eq_getElem _;obtain⟨k1,k2⟩:=h3 i f _ g1 hz;rw[Cs k1 g3,g2,g4] at k2;have:cs[i]?=some (ys[i]'(by omega)):=by
  have:=congrArg (fun l=>l[0]?) k2;simpa using this.symm
 rw[hy] at this;cases this
 exact k1
end
end Ads
end Go.Proofs.YtmnolnoeibhjgaaGreat
namespace Go.Proofs.YtmnolnoeibhjgaaGreat
open Go Ads
namespace Ads
section
variable {fs:Nat→Option aj} {ms:Nat→String→Option Nat} {rd:Bool}
theorem Q6{c:AC}{Q:AX→Env→Heap→Prop}(B d N:Nat)(I:Nat→Prop)(E:Nat→List (Nat×AV))(H:Nat→Heap)
  (step:∀j,j<N→I j→Dj fs ms B rd false c (ek d (E j)) (H j) fun x e1 h1=>match x with|.normal=>I (j+1)∧∃p,GC B p e1 h1 (ek d (E (j+1))) (H (j+1))|x=>Q x e1 h1)
  (last:I N→VC fs ms B rd (.loop c) (ek d (E N)) (H N) Q)
  (h0:I 0):VC fs ms B rd (.loop c) (ek d (E 0)) (H 0) Q:=by
 have:∀r j,j+r=N→I j→VC fs ms B rd (.loop c) (ek d (E j)) (H j) Q:=by
  intro r;induction r with
  |zero=>
   intro j hj hi;have:j=N:=by omega
   subst this;exact last hi
  |succ r ih=>
   intro j hj hi;obtain⟨x,e1,h1,hb,hk⟩:=aa (step j (by omega) hi);cases x with
   |normal=>
    obtain⟨hi',p,hr⟩:=hk;obtain⟨x2,e2,h2,gn,hk2⟩:=BK hr (ih (j+1) (by omega) hi');exact⟨_,_,_,.lE hb gn,hk2⟩
   |exit i=>exact⟨_,_,_,.cT hb rfl,hk⟩
   |ret=>exact⟨_,_,_,.cT hb rfl,hk⟩
   |panic v=>exact⟨_,_,_,.cT hb rfl,hk⟩
 exact this N 0 (by omega) h0
theorem Q9{c:AC}{Q:AX→Env→Heap→Prop}(d N:Nat)(E:Nat→List (Nat×AV))
  (step:∀j,j<N→Dj fs ms 0 rd false c (ek d (E j)) (hk 0 []) fun x e1 h1=>match x with|.normal=>True∧iS id 0 e1 (E (j+1))|x=>Q x e1 h1)
  (last:VC fs ms 0 rd (.loop c) (ek d (E N)) (hk 0 []) Q):VC fs ms 0 rd (.loop c) (ek d (E 0)) (hk 0 []) Q:=by
 have:∀r j,j+r=N→VC fs ms 0 rd (.loop c) (ek d (E j)) (hk 0 []) Q:=by
  intro r;induction r with
  |zero=>
   intro j hj;have:j=N:=by omega
   subst this;exact last
  |succ r ih=>
   intro j hj;obtain⟨x,e1,h1,hb,hk⟩:=aa (step j (by omega));cases x with
   |normal=>
    obtain⟨x2,e2,h2,gn,hk2⟩:=z5 (h:=h1) d (E (j+1)) hk.2 (ih (j+1) (by omega));exact⟨_,_,_,.lE hb gn,hk2⟩
   |exit i=>exact⟨_,_,_,.cT hb rfl,hk⟩
   |ret=>exact⟨_,_,_,.cT hb rfl,hk⟩
   |panic v=>exact⟨_,_,_,.cT hb rfl,hk⟩
 exact this N 0 (by omega)
theorem Q8{c:AC}{Q:AX→Env→Heap→Prop}(B d N:Nat)(E:Nat→List (Nat×AV))(H:Nat→Heap)
  (step:∀j,j<N→∀K:AX→Env→Heap→Prop,(∀e1 h1 p,GC B p e1 h1 (ek d (E (j+1))) (H (j+1))→K .normal e1 h1)→VC fs ms B rd c (ek d (E j)) (H j) K)
  (last:VC fs ms B rd (.loop c) (ek d (E N)) (H N) Q):VC fs ms B rd (.loop c) (ek d (E 0)) (H 0) Q:=by
 have:∀r j,j+r=N→VC fs ms B rd (.loop c) (ek d (E j)) (H j) Q:=by
  intro r;induction r with
  |zero=>
   intro j hj;have:j=N:=by omega
   subst this;exact last
  |succ r ih=>
   intro j hj;obtain⟨x,e1,h1,hb,hk⟩:=step j (by omega) (fun x e1 h1=>x=.normal∧∃p,GC B p e1 h1 (ek d (E (j+1))) (H (j+1))) (fun e1 h1 p hg=>⟨rfl,p,hg⟩);obtain⟨rfl,p,hr⟩:=hk;obtain⟨x2,e2,h2,gn,hk2⟩:=BK hr (ih (j+1) (by omega));exact⟨_,_,_,.lE hb gn,hk2⟩
 exact this N 0 (by omega)
theorem aJ{B:Nat}{a b:AC}{e:Env}{h:Heap}{Q:AX→Env→Heap→Prop}
  (hw:VC fs ms B rd a e h fun x e1 h1=>match x with|.normal=>VC fs ms B rd b e1 h1 Q|x=>Q x e1 h1):VC fs ms B rd (.seq a b) e h Q:=by
 obtain⟨x,e1,h1,hb,hk⟩:=hw;cases x with
 |normal=>
  obtain⟨x2,e2,h2,gn,hk2⟩:=hk;exact⟨_,_,_,.wC hb gn,hk2⟩
 |exit i=>exact⟨_,_,_,.oz hb rfl,hk⟩
 |ret=>exact⟨_,_,_,.oz hb rfl,hk⟩
 |panic v=>exact⟨_,_,_,.oz hb rfl,hk⟩
theorem aR{B id:Nat}{c:AC}{e:Env}{h:Heap}{Q:AX→Env→Heap→Prop}
  (hw:VC fs ms B rd c e h fun x e1 h1=>match x with|.exit i=>(if i=id then Q .normal e1 h1 else Q (.exit i) e1 h1)|x=>Q x e1 h1):VC fs ms B rd (.block id c) e h Q:=by
 obtain⟨x,e1,h1,hb,hk⟩:=hw;cases x with
 |normal=>exact⟨_,_,_,.eR hb (by intro i hi;cases hi),hk⟩
 |exit i=>
  by_cases hi:i=id
  ·subst hi;simp only[if_true] at hk;exact⟨_,_,_,.nw hb,hk⟩
  ·simp only[hi,if_false] at hk;exact⟨_,_,_,.eR hb (by intro i2 hi2;cases hi2;exact hi),hk⟩
 |ret=>exact⟨_,_,_,.eR hb (by intro i hi;cases hi),hk⟩
 |panic v=>exact⟨_,_,_,.eR hb (by intro i hi;cases hi),hk⟩
end
abbrev H3(O X I:Option bP):Heap:=⟨3,.node (.node .nil X .nil) O (.node .nil I .nil)⟩
theorem N0{b:Nat}{O X I:Option bP}{x:bP}(h:(H3 O X I).get b=some x):(b=0∧O=some x)∨(b=1∧X=some x)∨(b=2∧I=some x):=by
 match b,h with
 |0,h=>exact .inl ⟨rfl,h⟩
 |1,h=>exact .inr (.inl ⟨rfl,h⟩)
 |2,h=>exact .inr (.inr ⟨rfl,h⟩)
 |b+3,h=>
  exfalso;rcases Nat.mod_two_eq_zero_or_one (b+3) with h2|h2
  ·have e1:Nat.beq ((b+3)/2-1) 0=false:=by
    cases hq:(b+3)/2-1 with
    |zero=>omega
    |succ n=>rfl
   simp only[Heap.get,Tr.get,h2,e1,show Nat.beq (b+3) 0=false from rfl,cond_false,show Nat.beq 0 1=false from rfl] at h;revert h;cases Nat.beq (((b+3)/2-1)%2) 1<;>simp
  ·have e1:Nat.beq ((b+3)/2) 0=false:=by
    cases hq:(b+3)/2 with
    |zero=>omega
    |succ n=>rfl
   simp only[Heap.get,Tr.get,h2,e1,show Nat.beq (b+3) 0=false from rfl,cond_false,show Nat.beq 1 1=true from rfl,cond_true] at h;revert h;cases Nat.beq (((b+3)/2)%2) 1<;>simp
theorem gc3{B:Nat}{e:Env}{h:Heap}{d:Nat}{l:List (Nat×AV)}{O X I:Option bP}(p:Nat→Nat)(hl:iS p 3 e l)
  (hO:∀x,O=some x→∃y,h.get (p 0)=some y∧j7 p 3 x y)(hX:∀x,X=some x→∃y,h.get (p 1)=some y∧j7 p 3 x y)(hI:∀x,I=some x→∃y,h.get (p 2)=some y∧j7 p 3 x y)
  (TX:p 0≠p 1)(TY:p 0≠p 2)(h12:p 1≠p 2)(tw:∀b,b<B→p b=b)(hn:B≤3):GC B p e h (ek d l) (H3 O X I):=by
 refine⟨?_,?_,?_,tw,hn⟩
 ·intro i v hv;exact m0 hl (pz d _ i v hv)
 ·intro b x hx;rcases N0 hx with⟨rfl,h1⟩|⟨rfl,h1⟩|⟨rfl,h1⟩
  ·exact⟨by show 0<3;omega,hO x h1⟩
  ·exact⟨by show 1<3;omega,hX x h1⟩
  ·exact⟨by show 2<3;omega,hI x h1⟩
 ·intro b c hb hc he;cases hx:(H3 O X I).get b with
  |none=>exact absurd hx hb
  |some x=>
   cases hy:(H3 O X I).get c with
   |none=>exact absurd hy hc
   |some y=>
    rcases N0 hx with⟨rfl,-⟩|⟨rfl,-⟩|⟨rfl,-⟩<;>rcases N0 hy with⟨rfl,-⟩|⟨rfl,-⟩|⟨rfl,-⟩<;>first|rfl|exact absurd he TX|exact absurd he TY|exact absurd he h12|exact absurd he.symm TX|exact absurd he.symm TY|exact absurd he.symm h12
theorem YS{fs:Nat→Option aj}{ms:Nat→String→Option Nat}{B:Nat}{rd:Bool}{c:AC}{e:Env}{h:Heap}{Q:AX→Env→Heap→Prop}{d:Nat}{l:List (Nat×AV)}{O X I:Option bP}(p:Nat→Nat)(hl:iS p 3 e l)
  (hO:∀x,O=some x→∃y,h.get (p 0)=some y∧j7 p 3 x y)(hX:∀x,X=some x→∃y,h.get (p 1)=some y∧j7 p 3 x y)(hI:∀x,I=some x→∃y,h.get (p 2)=some y∧j7 p 3 x y)
  (TX:p 0≠p 1)(TY:p 0≠p 2)(h12:p 1≠p 2)(tw:∀b,b<B→p b=b)(hn:B≤3)(hw:VC fs ms B rd c (ek d l) (H3 O X I) Q):VC fs ms B rd c e h Q:=
 BK (gc3 p hl hO hX hI TX TY h12 tw hn) hw
def YW(O:Option bP):Prop:=∀x,O=some x→∃M s,x=.cells M true s∧e9 M=true
theorem TL{O:Option bP}{p:Nat→Nat}{n:Nat}{h:Heap}{b:Nat}(hc:YW O)(hg:h.get b=O):∀x,O=some x→∃y,h.get b=some y∧j7 p n x y:=by
 intro x hx;obtain⟨M,s,rfl,hM⟩:=hc x hx;exact⟨_,hg.trans hx,uN rfl hM⟩
theorem YE{h:Heap}{b:Nat}{p:Nat→Nat}{n:Nat}:∀x,(none:Option bP)=some x→∃y,h.get b=some y∧j7 p n x y:=by
 intro x hx;cases hx
theorem Ur{h:Heap}{b:Nat}{p:Nat→Nat}{n:Nat}{z:bP}(hg:∃y,h.get b=some y∧j7 p n z y):∀x,some z=some x→∃y,h.get b=some y∧j7 p n x y:=by
 intro x hx;cases hx
 exact hg
theorem YN{p:Nat→Nat}{n es:Nat}{wr:Bool}{a b c a' b' c':AV}(h1:qQ p n a a')(h2:qQ p n b b')(h3:qQ p n c c'):j7 p n (.cells [a,b,c] wr es) (.cells [a',b',c'] wr es):=by
 refine .cells rfl fun i x y hx hy=>?_
 match i,hx,hy with
 |0,hx,hy=>cases hx;cases hy;exact h1
 |1,hx,hy=>cases hx;cases hy;exact h2
 |2,hx,hy=>cases hx;cases hy;exact h3
def Xh(b:Nat):Nat→AV
 |0=>.az
 |j+1=>.sl b 0 (j+1) (j+1) true
def Xg(s:Nat)(L:List AV):Nat→Option bP
 |0=>none
 |j+1=>some (.cells (ak (L.take (j+1))) true s)
theorem DA:∀{l:List AV},e9 l=true→e9 (ak l)=true
 |[],_=>rfl
 |x::l,h=>by
  simp only[e9,Bool.and_eq_true] at h;exact pS (gB h.1) (DA h.2)
theorem Jk{l:List AV}(h:e9 l=true)(j:Nat):e9 (l.take j)=true:=by
 induction l generalizing j with
 |nil=>simp[e9]
 |cons x l ih=>
  simp only[e9,Bool.and_eq_true] at h;cases j with
  |zero=>rfl
  |succ j=>simp only[List.take_succ_cons,e9,h.1,Bool.true_and];exact ih h.2 j
theorem Xi{s:Nat}{L:List AV}(h:e9 L=true):∀j,YW (Xg s L j)
 |0,x,hx=>by cases hx
 |j+1,x,hx=>by
  cases hx
  exact⟨_,_,rfl,DA (Jk h _)⟩
theorem Xk{p:Nat→Nat}{n b c:Nat}(hp:p b=c)(hb:b<n):∀j,qQ p n (Xh b j) (Xh c j)
 |0=>.cl rfl
 |j+1=>by
  subst hp;exact .sl hb
theorem Xj{P:Nat→Prop}{g:Heap}{b s:Nat}{L:List AV}(hs:aL s L=true)(hc:e9 L=true)(hP:P b):∀n,n=L.length→g.get b=Xg s L n→jr P g (Xh b n) (.fz (cR n) L)
 |0,h,_=>by
  have:L=[]:=List.length_eq_zero_iff.1 h.symm;subst this;exact .az
 |n+1,h,hg=>by
  refine jS (b:=b) (s:=s) (wr:=true) (es:=s) (vs:=ak L) hP ?_ rfl hs h hc;rw[hg,Xg,h,List.take_length]
theorem gX:∀{l:List AV} {s:Nat},aL s l=true→(ak l).length=l.length*s
 |[],s,_=>by simp[ak]
 |x::l,s,h=>by
  simp only[aL,Bool.and_eq_true] at h;have:=Nat.eq_of_beq_eq_true h.1;show(x.cells++ak l).length=_;rw[List.length_append,gX h.2,List.length_cons,this,Nat.succ_mul];omega
theorem lg:∀(l m:List AV),ak (l++m)=ak l++ak m
 |[],m=>rfl
 |x::l,m=>by
  show x.cells++ak (l++m)=(x.cells++ak l)++ak m;rw[lg l m,List.append_assoc]
theorem size_take{l:List AV}{s:Nat}(h:aL s l=true)(j:Nat):aL s (l.take j)=true:=by
 induction l generalizing j with
 |nil=>simp[aL]
 |cons x l ih=>
  simp only[aL,Bool.and_eq_true] at h;cases j with
  |zero=>rfl
  |succ j=>simp only[List.take_succ_cons,aL,h.1,Bool.true_and];exact ih h.2 j
theorem QO{s bytes nx:Nat}{tr:Tr bP}{b:Nat}{x:AV}{cs:List AV}(hs:eY s ⟨nx,tr⟩ x=some (0,cs))(hf:bz cs=true):
  eV (.append s bytes) [.sl b 0 0 0 false,x] ⟨nx,tr⟩=some (.sl b 0 0 0 false,⟨nx,tr⟩):=by
 simp only[eV,l2,hs];show cond (bz cs) _ _=_;rw[hf,cond_true];rfl
theorem yW{s bytes nx n:Nat}{tr:Tr bP}{b:Nat}{x:AV}{cs:List AV}{wr:Bool}{es:Nat}(hg:Heap.get ⟨nx,tr⟩ b=some (.cells [] wr es))(hb:bytes≤1048576)(hn:n≤1048576)(hs:eY s ⟨nx,tr⟩ x=some (n+1,cs))(hf:bz cs=true):
  eV (.append s bytes) [.sl b 0 0 0 false,x] ⟨nx,tr⟩=some (.sl nx 0 (n+1) (n+1) true,⟨nx+1,Tr.set tr nx (.cells cs true s)⟩):=by
 have hl:Heap.bt ⟨nx,tr⟩ b 0 (0*s)=some []:=by
  rw[ez hg (by simp)];simp
 have hm:(n+1)*bytes≤1048577*1048576:=Nat.mul_le_mul (by omega) hb;have b2:Nat.ble ((0+(n+1))*bytes) 140737488355328=true:=Nat.ble_eq_true_of_le (by rw[Nat.zero_add];omega);have b3:Nat.ble (0+(n+1)) 9223372036854775807=true:=Nat.ble_eq_true_of_le (by omega);have b4:Nat.beq (n+1) 0=false:=rfl;have b1:Nat.ble (0+(n+1)) 0=false:=by
  cases hb:Nat.ble (0+(n+1)) 0 with
  |false=>rfl
  |true=>have:=Nat.le_of_ble_eq_true hb;omega
 simp only[eV,l2,hs];show cond (bz cs) _ _=_;rw[hf,cond_true,b4,Bool.false_and,cond_false,b1,cond_false,b2,b3,Bool.and_self,cond_true,hg,hl];simp only[cond_false,Nat.zero_add];rfl
theorem PV{s bytes nx:Nat}{tr:Tr bP}{x:AV}{cs:List AV}(hs:eY s ⟨nx,tr⟩ x=some (0,cs))(hf:bz cs=true):
  eV (.append s bytes) [.az,x] ⟨nx,tr⟩=some (.az,⟨nx,tr⟩):=by
 simp only[eV,l2,hs];show cond (bz cs) _ _=_;rw[hf,cond_true];rfl
theorem PW{s bytes nx n:Nat}{tr:Tr bP}{x:AV}{cs:List AV}(hb:bytes≤1048576)(hn:n≤1048576)(hs:eY s ⟨nx,tr⟩ x=some (n+1,cs))(hf:bz cs=true):
  eV (.append s bytes) [.az,x] ⟨nx,tr⟩=some (.sl nx 0 (n+1) (n+1) true,⟨nx+1,Tr.set tr nx (.cells cs true s)⟩):=by
 have hm:(n+1)*bytes≤1048577*1048576:=Nat.mul_le_mul (by omega) hb;have b2:Nat.ble ((n+1)*bytes) 140737488355328=true:=Nat.ble_eq_true_of_le (by omega);have b3:Nat.ble (n+1) 9223372036854775807=true:=Nat.ble_eq_true_of_le (by omega);have b4:Nat.beq (n+1) 0=false:=rfl;simp only[eV,l2,hs];show cond (bz cs) _ _=_;rw[hf,cond_true,b4,cond_false,b2,b3,Bool.and_self,cond_true];rfl
theorem zY{s k:Nat}{l:List AV}{h:Heap}(hs:aL s l=true):eY s h (.fz k l)=some (l.length,ak l):=by
 simp only[eY,hs,cond_true]
theorem Ux{fs:Nat→Option aj}{ms:Nat→String→Option Nat}{f:Nat}{args args':List AV}{h H:Heap}{Q:AV→Heap→Prop}(bs:List Nat)(hH:cg bs h=H)(hf:nh (· ∈bs) h args args')(hw:VD fs ms f args' H Q):VD fs ms f args h Q:=
 Di bs hf (hH▸hw)
end Ads
end Go.Proofs.YtmnolnoeibhjgaaGreat
namespace Go.Proofs.YtmnolnoeibhjgaaGreat
open Go Ads
namespace Ads
theorem gO{α:Type}:∀(l:List α) (o:Nat),Heap.splice l o []=l
 |[],0=>rfl
 |[],o+1=>rfl
 |x::l,0=>rfl
 |x::l,o+1=>by
  show x::Heap.splice l o []=_;rw[gO l o]
theorem uj{α:Type}:∀(xs r:List α),xs.length≤r.length→Heap.splice r 0 xs=xs++r.drop xs.length
 |[],r,_=>by rw[gO];simp
 |x::xs,[],h=>by simp at h
 |x::xs,y::r,h=>by
  show x::Heap.splice r 0 xs=_;rw[uj xs r (by simpa using h)];rfl
theorem wH{α:Type}:∀(a r xs:List α),xs.length≤r.length→Heap.splice (a++r) a.length xs=a++xs++r.drop xs.length
 |[],r,xs,h=>by simpa using uj xs r h
 |x::a,r,[],h=>by rw[gO];simp
 |x::a,r,y::xs,h=>by
  show x::Heap.splice (a++r) a.length (y::xs)=_;rw[wH a r (y::xs) h];rfl
theorem TU{P:Nat→Prop}{g:Heap}{b n cap s:Nat}{op:Bool}{l rest vs:List AV}{wr:Bool}{es:Nat}(hb:P b)(hg:g.get b=some (.cells vs wr es))(hv:vs=ak l++rest)(hs:aL s l=true)
  (hn:n=l.length)(hcap:n≤cap)(ju:e9 l=true):jr P g (.sl b 0 n cap op) (.fz 0 l):=by
 subst hv;have hf:=jR hs;refine .sl hb hg hs hn (by rw[List.length_append,hf.1];omega) hcap (by omega) (fun h=>by omega) (fun h=>by omega) ?_;intro i x j c y hx hc hy;rw[Nat.zero_add] at hy;have e1:=cX hs hx;have l1:=(List.getElem?_eq_some_iff.1 hc).1;have l0:=(List.getElem?_eq_some_iff.1 hx).1;have hlt:i*s+j<(ak l).length:=by
  rw[hf.1]
  calc i*s+j<i*s+s:=by omega
   _=(i+1)*s:=(Nat.succ_mul i s).symm
   _≤l.length*s:=Nat.mul_le_mul_right _ l0
 rw[List.getElem?_append_left hlt] at hy;rw[nF hs hx hc] at hy;cases hy
 exact .clean (fm (gB (fm ju hx)) hc)
theorem WZ{s bytes nx:Nat}{tr:Tr bP}{b m cap es:Nat}{op:Bool}{l rest vs:List AV}{x y:AV}(hg:Heap.get ⟨nx,tr⟩ b=some (.cells vs true es))(hv:vs=ak l++rest)(hs:aL s l=true)(hm:m=l.length)
  (hcap:m<cap)(hr:rest.length=(cap-m)*s)(hsrc:eY s ⟨nx,tr⟩ x=some (1,y.cells))(hy:y.cells.length=s)(hf:bz y.cells=true):
  eV (.append s bytes) [.sl b 0 m cap op,x] ⟨nx,tr⟩=some (.sl b 0 (m+1) cap op,⟨nx,Tr.set tr b (.cells (ak (l++[y])++rest.drop s) true es)⟩):=by
 subst hv hm;have b1:Nat.ble (l.length+1) cap=true:=Nat.ble_eq_true_of_le hcap;have b4:Nat.beq 1 0=false:=rfl;have hfl:=(jR hs).1;have CF:s≤rest.length:=by
  rw[hr]
  calc s=1*s:=(Nat.one_mul s).symm
   _≤_:=Nat.mul_le_mul_right _ (by omega)
 have hb:Nat.ble (0+l.length*s+y.cells.length) (ak l++rest).length=true:=Nat.ble_eq_true_of_le (by rw[List.length_append,hfl,hy];omega);have hst:Heap.cZ ⟨nx,tr⟩ b (0+l.length*s) y.cells=some ⟨nx,Tr.set tr b (.cells (ak (l++[y])++rest.drop s) true es)⟩:=by
  simp only[Heap.cZ,hg,hb,hf,Bool.and_self,cond_true];have:Heap.splice (ak l++rest) (0+l.length*s) y.cells=ak (l++[y])++rest.drop s:=by
   rw[Nat.zero_add,←hfl,wH _ _ _ (by omega),lg,hy];simp[ak]
  rw[this];rfl
 simp only[eV,l2,hsrc];show cond (bz y.cells) _ _=_;rw[hf,cond_true,b4,Bool.false_and,cond_false,b1,cond_true,hst];rfl
end Ads
end Go.Proofs.YtmnolnoeibhjgaaGreat
namespace Go.Proofs.YtmnolnoeibhjgaaGreat
open Go Ads
namespace Ir
def Ds(i n:Int):Int:=i%n
theorem Ji(i n:Int)(hn:0<n)(hn2:n<2^62):PC fs ms 39 [.int .i64 i,.int .i64 n] (.int .i64 (Ds i n)):=by
 refine mb rfl rfl ?_;refine bN (af:=Tn) false rfl (Nat.le_of_ble_eq_true rfl) ?_;generalize hQ:(fun(v:AV) (_:Heap)=>v=.int .i64 (Ds i n))=Q;conv=>whnf
 refine⟨_,Kp _ _ (by omega),?_⟩;conv=>whnf
 have h1:i.tmod n=if 0≤i∨n∣i then i%n else i%n-n:=by
  rw[Int.tmod_eq_emod];split<;>simp<;>omega
 have h2:=Int.emod_nonneg i (show n≠0 by omega);have h3:=Int.emod_lt_of_pos i hn;refine br (fun hc=>?_) (fun hc=>?_)<;>(try rw[hc])<;>(conv=>whnf)
 ·subst hQ;simp only[decide_eq_true_eq] at hc;split at h1
  ·omega
  ·rw[h1,IntWalk.i64_in _ (by omega)];simp only[Ds]
   congr 1
   omega
 ·subst hQ;simp only[decide_eq_false_iff_not] at hc;split at h1
  ·rw[h1];rfl
  ·omega
end Ir
end Go.Proofs.YtmnolnoeibhjgaaGreat
namespace Go.Proofs.YtmnolnoeibhjgaaGreat
open Go Ads
namespace Ads
abbrev H8(a0 a1 a2 a3 a4 a5 a6 a7:Option bP):Heap:=⟨8,.node (.node (.node (.node .nil a7 .nil) a3 .nil) a1 (.node .nil a5 .nil)) a0 (.node (.node .nil a4 .nil) a2 (.node .nil a6 .nil))⟩
def D1(a0 a1 a2 a3 a4 a5 a6 a7:Option bP):Nat→Option bP
 |0=>a0|1=>a1|2=>a2|3=>a3|4=>a4|5=>a5|6=>a6|7=>a7|_=>none
theorem get_nil(b:Nat):Tr.get (.nil:Tr bP) b=none:=by simp[Tr.get]
theorem sj{a:Option bP}{b:Nat}(h:0<b):Tr.get (.node .nil a .nil:Tr bP) b=none:=by
 rcases Nat.mod_two_eq_zero_or_one b with h2|h2
 ·rw[Tr.eT _ _ h2 (by omega)];exact get_nil _
 ·rw[Tr.gZ _ _ h2];exact get_nil _
theorem GG{a a':Option bP}{b:Nat}(h:1<b):Tr.get (.node (.node .nil a' .nil) a .nil:Tr bP) b=none:=by
 rcases Nat.mod_two_eq_zero_or_one b with h2|h2
 ·rw[Tr.eT _ _ h2 (by omega)];exact get_nil _
 ·rw[Tr.gZ _ _ h2];exact sj (b:=b/2) (by omega)
theorem Rh{a0 a1 a2 a3 a4 a5 a6 a7:Option bP}(b:Nat):(H8 a0 a1 a2 a3 a4 a5 a6 a7).get b=D1 a0 a1 a2 a3 a4 a5 a6 a7 b:=by
 by_cases h8:b<8
 ·match b,h8 with
  |0,_=>rfl
  |1,_=>rfl
  |2,_=>rfl
  |3,_=>rfl
  |4,_=>rfl
  |5,_=>rfl
  |6,_=>rfl
  |7,_=>rfl
 ·have hp:D1 a0 a1 a2 a3 a4 a5 a6 a7 b=none:=by
   match b,h8 with
   |b+8,_=>rfl
  rw[hp];show Tr.get (.node (.node (.node (.node .nil a7 .nil) a3 .nil) a1 (.node .nil a5 .nil)) a0 (.node (.node .nil a4 .nil) a2 (.node .nil a6 .nil))) b=none;rcases Nat.mod_two_eq_zero_or_one b with h2|h2
  ·rw[Tr.eT _ _ h2 (by omega)];rcases Nat.mod_two_eq_zero_or_one (b/2-1) with h3|h3
   ·rw[Tr.eT _ _ h3 (by omega)];exact sj (b:=(b/2-1)/2-1) (by omega)
   ·rw[Tr.gZ _ _ h3];exact sj (b:=(b/2-1)/2) (by omega)
  ·rw[Tr.gZ _ _ h2];rcases Nat.mod_two_eq_zero_or_one (b/2) with h3|h3
   ·rw[Tr.eT _ _ h3 (by omega)];exact sj (b:=b/2/2-1) (by omega)
   ·rw[Tr.gZ _ _ h3];exact GG (b:=b/2/2) (by omega)
theorem gc8{B:Nat}{e:Env}{h:Heap}{d:Nat}{l:List (Nat×AV)}{a0 a1 a2 a3 a4 a5 a6 a7:Option bP}(p:Nat→Nat)(hl:iS p 8 e l)
  (hb:∀b x,D1 a0 a1 a2 a3 a4 a5 a6 a7 b=some x→∃y,h.get (p b)=some y∧j7 p 8 x y)
  (hi:∀b,b<8→∀c,c<8→p b=p c→b=c)(tw:∀b,b<B→p b=b)(hn:B≤8):GC B p e h (ek d l) (H8 a0 a1 a2 a3 a4 a5 a6 a7):=by
 have hlt:∀b,(H8 a0 a1 a2 a3 a4 a5 a6 a7).get b≠none→b<8:=by
  intro b hb;rw[Rh] at hb
  match b,hb with
  |0,_=>omega
  |1,_=>omega
  |2,_=>omega
  |3,_=>omega
  |4,_=>omega
  |5,_=>omega
  |6,_=>omega
  |7,_=>omega
  |b+8,hb=>exact absurd rfl hb
 refine⟨?_,?_,?_,tw,hn⟩
 ·intro i v hv;exact m0 hl (pz d _ i v hv)
 ·intro b x hx;have IZ:b<8:=hlt b (by rw[hx];exact fun h=>by cases h);rw[Rh] at hx;exact⟨IZ,hb b x hx⟩
 ·intro b c hb hc he;exact hi b (hlt b hb) c (hlt c hc) he
theorem ZW{P:Nat→bP→Prop}{a0 a1 a2 a3 a4 a5 a6 a7:Option bP}(h0:∀x,a0=some x→P 0 x)(h1:∀x,a1=some x→P 1 x)(h2:∀x,a2=some x→P 2 x)(h3:∀x,a3=some x→P 3 x)(h4:∀x,a4=some x→P 4 x)(h5:∀x,a5=some x→P 5 x)
  (h6:∀x,a6=some x→P 6 x)(h7:∀x,a7=some x→P 7 x):∀b x,D1 a0 a1 a2 a3 a4 a5 a6 a7 b=some x→P b x
 |0,x,h=>h0 x h
 |1,x,h=>h1 x h
 |2,x,h=>h2 x h
 |3,x,h=>h3 x h
 |4,x,h=>h4 x h
 |5,x,h=>h5 x h
 |6,x,h=>h6 x h
 |7,x,h=>h7 x h
 |b+8,x,h=>by cases h
theorem SN{O:Option bP}{p:Nat→Nat}{n:Nat}{h:Heap}{b:Nat}(hg:h.get b=O)(hr:∀x,O=some x→j7 p n x x):∀x,O=some x→∃y,h.get b=some y∧j7 p n x y:=fun x hx=>⟨x,hg.trans hx,hr x hx⟩
theorem YM{p:Nat→Nat}{n es:Nat}{wr:Bool}{a b a' b':AV}(h1:qQ p n a a')(h2:qQ p n b b'):j7 p n (.cells [a,b] wr es) (.cells [a',b'] wr es):=by
 refine .cells rfl fun i x y hx hy=>?_
 match i,hx,hy with
 |0,hx,hy=>cases hx;cases hy;exact h1
 |1,hx,hy=>cases hx;cases hy;exact h2
end Ads
end Go.Proofs.YtmnolnoeibhjgaaGreat
namespace Go.Proofs.YtmnolnoeibhjgaaGreat
open Go Ads
namespace Ads
theorem bX{h:Heap}{b o n es:Nat}{vs:List AV}{v:AV}(hg:h.get b=some (.cells vs true es))(hn:v.cells.length=n)(hl:o+n≤vs.length)(hf:bz v.cells=true):
  eV (.store n) [.ptr b o,v] h=some (.undef,h.set b (.cells (Heap.splice vs o v.cells) true es)):=by
 have b1:Nat.beq v.cells.length n=true:=by rw[hn];exact Nat.beq_refl n
 have b2:Nat.ble (o+v.cells.length) vs.length=true:=Nat.ble_eq_true_of_le (by omega);show cond (Nat.beq v.cells.length n) ((h.cZ b o v.cells).map fun h=>(AV.undef,h)) none=_;rw[b1,cond_true];simp only[Heap.cZ,hg,b2,hf,Bool.and_self,cond_true];rfl
theorem xX{h:Heap}{b c:Nat}{x:bP}:(h.set b x).get c=if c=b then some x else h.get c:=Tr.aT _ _ _ _
theorem aA{h:Heap}{b:Nat}{x:bP}:(h.set b x).get b=some x:=by rw[xX,if_pos rfl]
theorem bw{h:Heap}{b c:Nat}{x:bP}(hn:c≠b):(h.set b x).get c=h.get c:=by rw[xX,if_neg hn]
theorem au{h:Heap}{x:bP}:(h.new x).get h.next=some x:=by rw[Heap.bT,if_pos rfl]
theorem aF{h:Heap}{c:Nat}{x:bP}(hn:c<h.next):(h.new x).get c=h.get c:=by rw[Heap.bT,if_neg (by omega)]
theorem JV{b o n j s:Nat}(h:j<n):pV (.jD s n) [.ptr b o,.int .i64 (j:Nat)]=some (.ptr b (o+j*s)):=by
 have b1:Nat.ble (j+1) n=true:=Nat.ble_eq_true_of_le h;simp only[pV,l2,qw];show cond (Nat.ble (j+1) n) (some (AV.ptr b (o+j*s))) none=_;rw[b1,cond_true]
theorem Hv{b n cap j s:Nat}{op:Bool}(h:j<n):pV (.aB s) [.sl b 0 n cap op,.int .i64 (j:Nat)]=some (.ptr b (j*s)):=by
 have b1:Nat.ble (j+1) n=true:=Nat.ble_eq_true_of_le h;simp only[pV,l2,qw];show cond (Nat.ble (j+1) n) (some (AV.ptr b (0+j*s))) none=_;rw[b1,cond_true,Nat.zero_add]
structure Fr(h h':Heap)(bs:List Nat):Prop where
 next:h.next≤h'.next
 keep:∀b,b<h.next→b∉bs→h'.get b=h.get b
theorem Fr.refl(h:Heap)(bs:List Nat):Fr h h bs:=⟨Nat.le_refl _,fun _ _ _=>rfl⟩
theorem Fr.trans{h h1 h2:Heap}{bs:List Nat}(a:Fr h h1 bs)(b:Fr h1 h2 bs):Fr h h2 bs:=⟨Nat.le_trans a.next b.next,fun c hc hn=>(b.keep c (Nat.lt_of_lt_of_le hc a.next) hn).trans (a.keep c hc hn)⟩
theorem Fr.set{h h1:Heap}{bs:List Nat}{b:Nat}{x:bP}(a:Fr h h1 bs)(hb:b∈bs):Fr h (h1.set b x) bs:=⟨a.next,fun c hc hn=>by rw[bw (by intro e;subst e;exact hn hb)];exact a.keep c hc hn⟩
theorem Fr.new{h h1:Heap}{bs:List Nat}{x:bP}(a:Fr h h1 bs):Fr h (h1.new x) bs:=⟨Nat.le_succ_of_le a.next,fun c hc hn=>by rw[aF (Nat.lt_of_lt_of_le hc a.next)];exact a.keep c hc hn⟩
theorem Fr.gM{h h1:Heap}{bs:List Nat}{b:Nat}{x:bP}(a:Fr h h1 bs)(hb:h.next≤b):Fr h (h1.set b x) bs:=⟨a.next,fun c hc hn=>by rw[bw (by omega)];exact a.keep c hc hn⟩
end Ads
namespace Ir
abbrev Id:=Nat×Int
def ob(x:Id):AV:=.agg [.int .i64 (x.1:Nat),.int .i64 x.2]
def obs(L:List Id):List AV:=L.map ob
def oc(L:List Id):List AV:=ak (obs L)
theorem wF(L:List Id):aL 2 (obs L)=true:=ef (enc:=ob) (fun _=>rfl) L
theorem J2(L:List Id):(obs L).length=L.length:=List.length_map ..
theorem HO(L:List Id):(oc L).length=L.length*2:=by rw[oc,gX (wF L),J2]
theorem Sx{L:List Id}{i:Nat}(h:i<L.length):(oc L)[i*2+0]?=some (.int .i64 (L[i].1:Nat)):=
 nF (wF L) (x:=ob L[i]) (by rw[obs,List.getElem?_map,List.getElem?_eq_getElem h];rfl) rfl
theorem O9{L:List Id}{i:Nat}(h:i<L.length):(oc L)[i*2+1]?=some (.int .i64 L[i].2):=
 nF (wF L) (x:=ob L[i]) (by rw[obs,List.getElem?_map,List.getElem?_eq_getElem h];rfl) rfl
theorem Uq{L:List Id}{i:Nat}(h:i<L.length)(rest:List AV):((oc L++rest).drop (i*2)).take 2=[.int .i64 (L[i].1:Nat),.int .i64 L[i].2]:=by
 have hl:=HO L;refine List.ext_getElem? fun k=>?_;rw[List.getElem?_take]
 match k with
 |0=>rw[if_pos (by omega),List.getElem?_drop,List.getElem?_append_left (by omega),Sx h];rfl
 |1=>rw[if_pos (by omega),List.getElem?_drop,List.getElem?_append_left (by omega),O9 h];rfl
 |k+2=>rw[if_neg (by omega)];rfl
theorem HP:∀(L:List Id) (i:Nat) (_:i<L.length) (x:Id) (rest:List AV),Heap.splice (oc L++rest) (i*2) [.int .i64 (x.1:Nat),.int .i64 x.2]=oc (L.set i x)++rest
 |y::L,0,_,x,rest=>by
  show AV.int .i64 (x.1:Nat)::AV.int .i64 x.2::Heap.splice (oc L++rest) 0 []=AV.int .i64 (x.1:Nat)::AV.int .i64 x.2::(oc L++rest);rw[gO]
 |y::L,i+1,h,x,rest=>by
  have ih:=HP L i (by simpa using h) x rest;show Heap.splice (AV.int .i64 (y.1:Nat)::AV.int .i64 y.2::(oc L++rest)) ((i+1)*2) _=AV.int .i64 (y.1:Nat)::AV.int .i64 y.2::(oc (L.set i x)++rest);rw[show(i+1)*2=i*2+1+1 by omega,←ih];rfl
def Pe(P:Nat→Nat):List AV:=(List.range 64).map fun i=>.int .i64 ((P i:Nat):Int)
def j5(P:Nat→Nat)(i v:Nat):Nat→Nat:=fun j=>if j=i then v else P j
theorem qh(P:Nat→Nat):(Pe P).length=64:=by simp[Pe]
theorem D2{P:Nat→Nat}{i:Nat}(h:i<64):(Pe P)[i]?=some (.int .i64 ((P i:Nat):Int)):=by
 simp[Pe,List.getElem?_map,List.getElem?_range h]
theorem Kl{P:Nat→Nat}{i:Nat}(h:i<64)(v:Nat)(a:AV):Heap.splice (a::Pe P) (1+i*1) [.int .i64 ((v:Nat):Int)]=a::Pe (j5 P i v):=by
 rw[qn _ _ _ (by rw[List.length_cons,qh];omega),show 1+i*1=i+1 by omega,List.set_cons_succ]
 congr 1
 refine List.ext_getElem? fun k=>?_;rw[List.getElem?_set];by_cases hk:k<64
 ·rw[D2 hk,D2 hk,qh,if_pos h,j5];by_cases hki:i=k
  ·subst hki;simp
  ·rw[if_neg hki,if_neg (Ne.symm hki)]
 ·rw[List.getElem?_eq_none (by rw[qh];omega),List.getElem?_eq_none (by rw[qh];omega),qh,if_pos h];split
  ·omega
  ·rfl
structure YX(h:Heap)(p r cap:Nat)(op:Bool)(L:List Id)(P:Nat→Nat)(rest:List AV):Prop where
 hp:h.get p=some (.cells (.sl r 0 L.length cap op::Pe P) true 0)
 hr:h.get r=some (.cells (oc L++rest) true 2)
 ne:p≠r
 lp:p<h.next
 lr:r<h.next
def ah(a b:Id):Bool:=decide (a.2<b.2)||(decide (a.2=b.2)&&decide (a.1<b.1))
theorem ZN{h:Heap}{p r cap:Nat}{op:Bool}{L:List Id}{P:Nat→Nat}{rest:List AV}{i:Nat}{x:Id}(hh:YX h p r cap op L P rest)(hi:i<L.length)(hx:x.1<64)(hl:L.length<2^62){Q:AV→Heap→Prop}
  (hQ:∀h',YX h' p r cap op (L.set i x) (j5 P x.1 (i+1)) rest→Fr h h' [p,r]→Q (.dO []) h'):VD fs ms 237 [.ptr p 0,.int .i64 (i:Nat),ob x] h Q:=by
 refine bN (af:=I9) true rfl (Nat.le_of_ble_eq_true rfl) ?_;obtain⟨x1,x2⟩:=x;obtain⟨hp,hr,ne,lp,lr⟩:=hh;conv=>whnf
 refine⟨_,cM (by rw[aF lp];exact hp) rfl,?_⟩;conv=>whnf
 refine⟨_,FG au (Nat.le_refl _),?_⟩;conv=>whnf
 refine⟨_,Hv hi,?_⟩;conv=>whnf
 have hlen:=HO L;refine⟨_,_,bX (by rw[aF lr];exact hr) rfl (by rw[List.length_append];omega) rfl,?_⟩;conv=>whnf
 refine⟨_,cM (by rw[bw (by omega)];exact au) rfl,?_⟩;conv=>whnf
 rw[DL (by omega)];refine⟨_,JV (o:=1) hx,?_⟩;conv=>whnf
 have hlp:=qh P;refine⟨_,_,bX (by rw[bw ne,aF lp];exact hp) rfl (by rw[List.length_cons];show 1+x1*1+1≤_;simp only at hx;omega) rfl,?_⟩;conv=>whnf
 refine hQ _ ⟨?_,?_,ne,?_,?_⟩ ?_
 ·rw[aA];show some (bP.cells (Heap.splice _ (1+x1*1) [.int .i64 ((i+1:Nat):Int)]) true 0)=_;rw[Kl hx,List.length_set]
 ·rw[bw (Ne.symm ne),aA];show some (bP.cells (Heap.splice _ (i*2) [.int .i64 ((x1:Nat):Int),.int .i64 x2]) true 2)=_;have:=HP L i hi (x1,x2) rest;rw[this]
 ·exact Nat.lt_succ_of_lt lp
 ·exact Nat.lt_succ_of_lt lr
 ·exact(((Fr.refl _ _).new).set (by simp)).set (by simp)
end Ir
end Go.Proofs.YtmnolnoeibhjgaaGreat
namespace Go.Proofs.YtmnolnoeibhjgaaGreat
open Go Ads
namespace Ads
theorem aH{fs:Nat→Option aj}{ms:Nat→String→Option Nat}{B:Nat}{rd:Bool}{c:AC}{e:Env}{h:Heap}{Q:AX→Env→Heap→Prop}
  (hw:VC fs ms B rd c e h fun x e1 h1=>match x with|.normal=>VC fs ms B rd (.loop c) e1 h1 Q|x=>Q x e1 h1):VC fs ms B rd (.loop c) e h Q:=by
 obtain⟨x,e1,h1,hb,hk⟩:=hw;cases x with
 |normal=>
  obtain⟨x2,e2,h2,gn,hk2⟩:=hk;exact⟨_,_,_,.lE hb gn,hk2⟩
 |exit i=>exact⟨_,_,_,.cT hb rfl,hk⟩
 |ret=>exact⟨_,_,_,.cT hb rfl,hk⟩
 |panic v=>exact⟨_,_,_,.cT hb rfl,hk⟩
theorem cm{o:wW}{args:List AV}{h h':Heap}{v:AV}{k:AV→Heap→Prop}(hs:eV o args h=some (v,h'))(hq:∀h1,h1=h'→k v h1):∃v h1,eV o args h=some (v,h1)∧k v h1:=⟨v,h',hs,hq h' rfl⟩
section
variable {fs:Nat→Option aj} {ms:Nat→String→Option Nat} {B:Nat} {rd:Bool}
theorem rH:∀{l1 l2:List bp} {e:Env} {h:Heap} {tr e1 h1 wV e2 h2},VS fs ms B (.ops rd l1 e h) (.ops tr e1 h1)→VS fs ms B (.ops rd l2 e1 h1) (.ops wV e2 h2)→∃KH,VS fs ms B (.ops rd (l1++l2) e h) (.ops KH e2 h2)
 |[],l2,e,h,tr,e1,h1,wV,e2,h2,a,b=>by
  cases a
  exact⟨_,b⟩
 |i::l1,l2,e,h,tr,e1,h1,wV,e2,h2,a,b=>by
  cases a with
  |off hw ha=>
   obtain⟨KH,hc⟩:=rH ha b;exact⟨_,.off hw hc⟩
  |on hw ho hv ha=>
   obtain⟨KH,hc⟩:=rH ha b;exact⟨_,.on hw ho hv hc⟩
theorem YT{l:List bp}{e:Env}{h:Heap}{K:Env→Heap→Prop}(n:Nat)(hw:VO fs ms B rd (l.take n) e h fun e1 h1=>VO fs ms B rd (l.drop n) e1 h1 K):VO fs ms B rd l e h K:=by
 obtain⟨tr,e1,h1,a,wV,e2,h2,b,hk⟩:=hw;obtain⟨KH,hc⟩:=rH a b;rw[List.take_append_drop] at hc;exact⟨KH,e2,h2,hc,hk⟩
theorem YR{l:List bp}{e:Env}{h:Heap}{Q:AX→Env→Heap→Prop}(hw:VO fs ms B rd l e h fun e1 h1=>Q .normal e1 h1):VC fs ms B rd (.ops l) e h Q:=by
 obtain⟨tr,e1,h1,a,hk⟩:=hw;exact⟨_,_,_,.ops a,hk⟩
theorem VO.mono{l:List bp}{e:Env}{h:Heap}{K K':Env→Heap→Prop}(hc:VO fs ms B rd l e h K)(hq:∀e' h',K e' h'→K' e' h'):VO fs ms B rd l e h K':=by
 obtain⟨tr,e',h',hb,hk⟩:=hc;exact⟨tr,e',h',hb,hq e' h' hk⟩
theorem cj{c:bx}{a b:AC}{e:Env}{h:Heap}{Q:AX→Env→Heap→Prop}(hw:P0 e c fun v=>match v with|.bool t=>yZ t (VC fs ms B rd a e h Q) (VC fs ms B rd b e h Q)|_=>False):VC fs ms B rd (.cond c a b) e h Q:=by
 obtain⟨ha,hw⟩:=td hw;split at hw
 ·rename_i t ht;rcases iG hw with⟨rfl,h2⟩|⟨rfl,h2⟩
  ·obtain⟨x,e1,h1,hb,hk⟩:=h2;exact⟨_,_,_,.cond ha ht hb,hk⟩
  ·obtain⟨x,e1,h1,hb,hk⟩:=h2;exact⟨_,_,_,.cond ha ht hb,hk⟩
 ·exact hw.elim
end
end Ads
end Go.Proofs.YtmnolnoeibhjgaaGreat
