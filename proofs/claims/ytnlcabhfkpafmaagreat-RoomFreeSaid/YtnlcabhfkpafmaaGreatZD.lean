/-
  Room: a task's level, what it uses, a resource's ceiling: the program's answer and the document's. Room: what a task uses, a resource's ceiling: the program's answer and the document's. Room: a resource's ceiling: the program's answer and the document's. Room: whether an operation may be: the program's answer and the document's. Room: whether an operation may be: the program's answer. Room: rows of operations, whether a row may be; the time a guard is given. Room: the guards of sporadic tasks: the program's and the document's. Room: rows of operations that are consumed from their fronts. Room: rows of operations: what is left, what is next; the document's. Room: rows of operations: what is next; the document's rows. Room: rows of operations: the document's Ran and Left; new rows. Room: new rows of operations. Room: the program's jobs. Room: what a job does wrong; new jobs of the program. Room: the document's jobs. Room: the document's jobs enter and err.
-/
import Derived.Test.YtnlcabhfkpafmaaGreatZB
import Derived.Test.YtnlcabhfkpafmaaGreatZA
set_option maxRecDepth 100000
set_option linter.unusedSimpArgs false
set_option linter.unusedVariables false
namespace Go.Proofs.YtnlcabhfkpafmaaGreat
open Go Ads
namespace Ir
def inR(l:List Tk)(i:Int):Bool:=decide (0≤i∧i<(l.length:Nat))
def dAt(l:List Tk)(i:Int):Int:=match l[i.toNat]? with|some t=>t.d|none=>0
def above(l:List Tk)(d:Int):Nat:=l.countP (fun m=>decide (m.d>d))
def lvl(l:List Tk)(i:Int):Int:=if inR l i=true then((1+above l (dAt l i):Nat):Int) else 0
theorem EU{l:List Tk}(k:Nat){i:Int}(h0:0≤i)(h1:i<(l.length:Nat)):∃t:Tk,pV (.aG 8) [.fz k (ey l),.int .i64 i]=some (.fp (tk t).cells 0)∧l[i.toNat]?=some t:=by
 have hj:i.toNat<l.length:=by omega
 refine⟨l[i.toNat],?_,List.getElem?_eq_getElem hj⟩;have:=iH (k:=k) hj
 rwa [show((i.toNat:Nat):Int)=i by omega] at this
theorem AP(l:List Tk)(d:Int):above l d≤l.length:=List.countP_le_length
theorem vA{l:List Tk}{j:Nat}(hj:j<l.length)(d:Int):above (l.take (j+1)) d=above (l.take j) d+(if l[j].d>d then 1 else 0):=by
 rw[above,gy hj,List.countP_append,List.countP_cons];simp[above]
theorem Fb{l:List Tk}{i:Int}(h:¬(0≤i∧i<(l.length:Nat))):lvl l i=0:=by
 simp only[lvl,inR,h,decide_false,Bool.false_eq_true,if_false]
theorem Af{l:List Tk}{i:Int}(h:0≤i∧i<(l.length:Nat)){t:Tk}(ht:l[i.toNat]?=some t):lvl l i=((1+above l t.d:Nat):Int):=by
 simp only[lvl,inR,h,and_self,decide_true,if_true,dAt,ht]
theorem FV{l:List Tk}{j:Nat}(hj:j<l.length)(hl:l.length<2^62){d:Int}(h:l[j].d>d):some (AV.int .i64 (IntKind.i64.wrap (((1+above (l.take j) d:Nat):Int)+1)))=some (AV.int .i64 ((1+above (l.take (j+1)) d:Nat):Int)):=by
 have h1:=AP (l.take j) d;have h2:(l.take j).length=j:=by rw[List.length_take];omega
 rw[oa (by omega),vA hj,if_pos h,←Nat.add_assoc]
theorem CJ{l:List Tk}{j:Nat}(hj:j<l.length){d:Int}(h:¬l[j].d>d):some (AV.int .i64 ((1+above (l.take j) d:Nat):Int))=some (AV.int .i64 ((1+above (l.take (j+1)) d:Nat):Int)):=by
 rw[vA hj,if_neg h,Nat.add_zero]
theorem Fa(k:Nat)(l:List Tk)(hl:l.length<2^62)(i:Int):PC fs ms 52 [.fz k (ey l),.int .i64 i] (.int .i64 (lvl l i)):=by
 refine cG (by simp[cw,AV.cl,bW]) rfl ?_;refine ak (af:=WB) false rfl (Nat.le_of_ble_eq_true rfl) ?_;generalize hQ:(fun(v:AV) (_:Heap)=>v=.int .i64 (lvl l i))=Q;conv=>whnf
 iterate 3 (all_goals (first|(refine br (fun hc=>?_) (fun hc=>?_)<;>(try rw[hc])<;>(conv=>whnf))|skip))
 ·subst hQ;simp at hc;exact congrArg (AV.int .i64) (Fb (by omega)).symm
 ·subst hQ;simp[bB] at hc;exact congrArg (AV.int .i64) (Fb (by omega)).symm
 ·have h0:0≤i:=by simp at*;omega
  have h1:i<(l.length:Nat):=by simp[bB] at hc;omega
  obtain⟨t,t1,t2⟩:=EU k h0 h1;refine iZ 5 [(0,.fz k (ey l)),(1,.int .i64 i),(5,.int .i64 ((1+above (l.take 0) t.d:Nat):Int)),(16,.fz k (ey l)),(17,.int .i64 (ey l).length),(18,.int .i64 ((0:Nat):Int))] (by repeat' (first|exact trivial|refine cW rfl (by omega) ?_|refine cF rfl (by omega) ?_|refine bQ rfl (by omega) ?_|refine bl rfl (by first|rfl|simp[cw,AV.cl,bS,bW]) ?_|refine bl (aL (by omega)) rfl ?_)) ?_;refine iT 5 l.length (fun j=>True) (fun j=>[(0,.fz k (ey l)),(1,.int .i64 i),(5,.int .i64 ((1+above (l.take j) t.d:Nat):Int)),(16,.fz k (ey l)),(17,.int .i64 (ey l).length),(18,.int .i64 (j:Nat))]) ?_ ?_ trivial
  ·intro j hj _;have hle:=AP (l.take j) t.d;have UR:(l.take j).length=j:=by rw[List.length_take];omega
   conv=>whnf
   refine br (fun hc=>?_) (fun hc=>?_)<;>(try rw[hc])<;>(conv=>whnf)
   ·refine⟨_,iH hj,?_⟩;conv=>whnf
    refine⟨_,t1,?_⟩;conv=>whnf
    refine br (fun hc=>?_) (fun hc=>?_)<;>(try rw[hc])<;>(conv=>whnf)
    ·refine⟨trivial,⟨_,rfl,.cl (by simp[AV.cl,bW])⟩,⟨_,rfl,.cl rfl⟩,⟨_,FV hj hl (of_decide_eq_true hc),.cl rfl⟩,⟨_,rfl,.cl (by simp[AV.cl,bW])⟩,⟨_,rfl,.cl rfl⟩,⟨_,aL (by omega),.cl rfl⟩,trivial⟩
    ·refine⟨trivial,⟨_,rfl,.cl (by simp[AV.cl,bW])⟩,⟨_,rfl,.cl rfl⟩,⟨_,CJ hj (of_decide_eq_false hc),.cl rfl⟩,⟨_,rfl,.cl (by simp[AV.cl,bW])⟩,⟨_,rfl,.cl rfl⟩,⟨_,aL (by omega),.cl rfl⟩,trivial⟩
   ·exfalso;have:=of_decide_eq_false hc;rw[bB] at this;omega
  ·intro _;conv=>whnf
   refine br (fun hc=>?_) (fun hc=>?_)<;>(try rw[hc])<;>(conv=>whnf)
   ·exfalso;have:=of_decide_eq_true hc;rw[bB] at this;omega
   ·subst hQ;rw[List.take_length];exact congrArg (AV.int .i64) (Af ⟨h0,h1⟩ t2).symm
theorem Qc(a:Int)(r:Nat)(hr:r<8):(BitVec.ofInt 64 a).getLsbD r=decide (a/2^r%2=1):=by
 rw[BitVec.getLsbD,BitVec.toNat_ofInt,Nat.testBit_eq_decide_div_mod_eq];have:r=0∨r=1∨r=2∨r=3∨r=4∨r=5∨r=6∨r=7:=by omega
 rw[decide_eq_decide];rcases this with h|h|h|h|h|h|h|h<;>subst h<;>simp only[Nat.reducePow,Int.reducePow,Nat.pow_zero,Int.pow_zero]<;>omega
theorem Eg(a:Int)(r:Nat)(hr:r<8):(BitVec.ofInt 64 a&&&BitVec.twoPow 64 r).toNat=if a/2^r%2=1 then 2^r else 0:=by
 rw[BitVec.and_twoPow,Qc a r hr];by_cases h:a/2^r%2=1
 ·simp only[h,decide_true,if_true,BitVec.toNat_twoPow];refine Nat.mod_eq_of_lt ?_;exact Nat.pow_lt_pow_right (by decide) (by omega)
 ·simp[h]
def PU(t:Tk)(r:Nat):Bool:=decide (t.a/2^r%2=1)
def uses(l:List Tk)(i r:Int):Bool:=if 0≤i∧i<(l.length:Nat)∧0≤r∧r<8 then(match l[i.toNat]? with|some t=>PU t r.toNat|none=>false) else false
theorem K9{l:List Tk}{i r:Int}(h:¬(0≤i∧i<(l.length:Nat)∧0≤r∧r<8)):uses l i r=false:=by
 rw[uses,if_neg h]
theorem FI{l:List Tk}{i r:Int}(h:0≤i∧i<(l.length:Nat)∧0≤r∧r<8){t:Tk}(ht:l[i.toNat]?=some t):uses l i r=PU t r.toNat:=by
 rw[uses,if_pos h,ht]
theorem eight{r:Nat}(hr:r<8):r=0∨r=1∨r=2∨r=3∨r=4∨r=5∨r=6∨r=7:=by omega
theorem sB(a:Int){r:Int}(h0:0≤r)(h1:r<8):pV (.bin .shr) [.int .i64 a,.int .i64 r]=some (.int .i64 (a/2^r.toNat)):=by
 obtain⟨n,rfl⟩:∃n:Nat,r=n:=⟨r.toNat,by omega⟩;rcases eight (r:=n) (by omega) with h|h|h|h|h|h|h|h<;>subst h
 all_goals
  show some (AV.int .i64 _)=_;refine congrArg (fun x=>some (AV.int .i64 x)) ?_;exact Int.fdiv_eq_ediv_of_nonneg _ (by decide)
theorem Iq{r:Int}(h0:0≤r)(h1:r<8):pV (.bin .shl) [.int .i64 1,.int .i64 r]=some (.int .i64 (2^r.toNat)):=by
 obtain⟨n,rfl⟩:∃n:Nat,r=n:=⟨r.toNat,by omega⟩;rcases eight (r:=n) (by omega) with h|h|h|h|h|h|h|h<;>subst h<;>rfl
theorem Y8(x:Int):IntKind.i64.wrap ((BitVec.ofInt 64 x&&&BitVec.ofInt 64 1).toNat:Int)=x%2:=by
 have h:=Eg x 0 (by decide);rw[show BitVec.ofInt 64 1=BitVec.twoPow 64 0 by decide,h];rcases Int.emod_two_eq x with h1|h1
 ·simp[h1];rfl
 ·simp[h1];rfl
theorem Y9(a:Int){n:Nat}(hn:n<8):(IntKind.i64.wrap ((BitVec.ofInt 64 a&&&BitVec.ofInt 64 (2^n)).toNat:Int)!=0)=decide (a/2^n%2=1):=by
 have h:=Eg a n hn;rw[show BitVec.ofInt 64 (2^n)=BitVec.twoPow 64 n by rcases eight hn with h|h|h|h|h|h|h|h<;>subst h<;>decide,h];by_cases h1:a/2^n%2=1
 ·rw[if_pos h1,decide_eq_true h1];rcases eight hn with h|h|h|h|h|h|h|h<;>subst h<;>decide
 ·rw[if_neg h1,decide_eq_false h1];decide
theorem FH(k:Nat)(l:List Tk)(hl:l.length<2^62)(i r:Int):PC fs ms 137 [.fz k (ey l),.int .i64 i,.int .i64 r] (.bool (uses l i r)):=by
 refine cG (by simp[cw,AV.cl,bW]) rfl ?_;refine ak (af:=LU) false rfl (Nat.le_of_ble_eq_true rfl) ?_;generalize hQ:(fun(v:AV) (_:Heap)=>v=.bool (uses l i r))=Q;conv=>whnf
 iterate 5 (all_goals (first|(refine br (fun hc=>?_) (fun hc=>?_)<;>(try rw[hc])<;>(conv=>whnf))|skip))
 case' refine_2.refine_2.refine_2.refine_2=>
  have h0:0≤i∧i<(l.length:Nat)∧0≤r∧r<8:=by simp[bB] at*;omega
  obtain⟨t,t1,t2⟩:=EU k h0.1 h0.2.1;refine⟨_,t1,?_⟩;conv=>whnf
  refine⟨_,Iq h0.2.2.1 h0.2.2.2,?_⟩;conv=>whnf
  subst hQ;rw[FI h0 t2];refine congrArg AV.bool ?_;exact Y9 t.a (by omega)
 all_goals (subst hQ;refine congrArg AV.bool (K9 ?_).symm;simp[bB] at*;omega)
def rU(g:Nat→Int):Nat→Int
 |0=>0
 |n+1=>max (rU g n) (g n)
def mM(l:List Tk)(r:Int)(j:Nat):Int:=if uses l j r=true then lvl l j else 0
def ceil(l:List Tk)(r:Int):Int:=rU (mM l r) l.length
theorem Fc(g:Nat→Int):∀n,0≤rU g n
 |0=>Int.le_refl 0
 |n+1=>by have:=Fc g n;simp only[rU];omega
theorem Iv{l:List Tk}{r:Int}{j:Nat}(h:uses l j r=true):rU (mM l r) (j+1)=max (rU (mM l r) j) (lvl l j):=by
 simp only[rU,mM,if_pos h]
theorem W6{l:List Tk}{r:Int}{j:Nat}(h:uses l j r=false):rU (mM l r) (j+1)=rU (mM l r) j:=by
 have:=Fc (mM l r) j;simp only[rU,mM,h,Bool.false_eq_true,if_false];omega
theorem Ff{a b c:Int}(h:max a b=c):some (AV.int .i64 (cond (decide (b>a)) b a))=some (AV.int .i64 c):=by
 subst h;refine congrArg (fun x=>some (AV.int .i64 x)) ?_;by_cases h:b>a
 ·rw[decide_eq_true h];show b=_;omega
 ·rw[decide_eq_false h];show a=_;omega
theorem GF{F:Nat}{aF:List AV}{g:Nat→Int}(k:Nat)(l:List Tk)(hl:l.length<2^62)(hcap:cw aF=true)(hp:∀j (hj:j<l.length),PC fs ms F (.int .i64 (j:Nat)::tk l[j]::aF) (.int .i64 (g j))):
  PC fs ms 152 [.fz k (ey l),.func (.func F) [] aF] (.int .i64 (rU g l.length)):=by
 refine cG (by simp[cw,AV.cl,bW,hcap]) rfl ?_;refine ak (af:=Mi) false rfl (Nat.le_of_ble_eq_true rfl) ?_;generalize hQ:(fun(v:AV) (_:Heap)=>v=.int .i64 (rU g l.length))=Q;conv=>whnf
 refine iZ 5 [(1,.func (.func F) [] aF),(4,.int .i64 (rU g 0)),(7,.fz k (ey l)),(8,.int .i64 (ey l).length),(9,.int .i64 ((0:Nat):Int))] (by repeat' (first|exact trivial|refine cW rfl (by omega) ?_|refine cF rfl (by omega) ?_|refine bQ rfl (by omega) ?_|refine bl rfl (by first|rfl|simp[cw,AV.cl,bS,bW,hcap]) ?_|refine bl (aL (by omega)) rfl ?_)) ?_;refine iT 5 l.length (fun j=>True) (fun j=>[(1,.func (.func F) [] aF),(4,.int .i64 (rU g j)),(7,.fz k (ey l)),(8,.int .i64 (ey l).length),(9,.int .i64 (j:Nat))]) ?_ ?_ trivial
 ·intro j hj _;conv=>whnf
  refine br (fun hc=>?_) (fun hc=>?_)<;>(try rw[hc])<;>(conv=>whnf)
  ·refine⟨_,iH hj,?_⟩;conv=>whnf
   refine aO (hp j hj) ?_;conv=>whnf
   refine⟨trivial,⟨_,rfl,.cl (by simp[AV.cl,cw,hcap])⟩,⟨_,Ff rfl,.cl rfl⟩,⟨_,rfl,.cl (by simp[AV.cl,bW])⟩,⟨_,rfl,.cl rfl⟩,⟨_,aL (by omega),.cl rfl⟩,trivial⟩
  ·exfalso;have:=of_decide_eq_false hc;rw[bB] at this;omega
 ·intro _;conv=>whnf
  refine br (fun hc=>?_) (fun hc=>?_)<;>(try rw[hc])<;>(conv=>whnf)
  ·exfalso;have:=of_decide_eq_true hc;rw[bB] at this;omega
  ·subst hQ;rfl
theorem MY(k:Nat)(l:List Tk)(hl:l.length<2^62)(r:Int)(j:Nat)(t:Tk):PC fs ms 153 [.int .i64 (j:Nat),tk t,.fp [.fz k (ey l)] 0,.fp [.int .i64 r] 0] (.int .i64 (mM l r j)):=by
 refine cG (by simp[cw,AV.cl,bW,tk]) rfl ?_;refine ak (af:=Mj) false rfl (Nat.le_of_ble_eq_true rfl) ?_;generalize hQ:(fun(v:AV) (_:Heap)=>v=.int .i64 (mM l r j))=Q;conv=>whnf
 refine aO (FH k l hl (j:Nat) r) ?_;conv=>whnf
 refine br (fun hc=>?_) (fun hc=>?_)<;>(try rw[hc])<;>(conv=>whnf)
 ·subst hQ;refine congrArg (AV.int .i64) ?_;simp at hc;simp only[mM,hc,Bool.false_eq_true,if_false]
 ·refine aO (Fa k l hl (j:Nat)) ?_;conv=>whnf
  subst hQ;refine congrArg (AV.int .i64) ?_;simp at hc;simp only[mM,hc,if_true]
theorem Qf(k:Nat)(l:List Tk)(hl:l.length<2^62)(r:Int):PC fs ms 112 [.fz k (ey l),.int .i64 r] (.int .i64 (ceil l r)):=by
 refine cG (by simp[cw,AV.cl,bW]) rfl ?_;refine dz (af:=LO) rfl (Nat.le_of_ble_eq_true rfl) ?_;generalize hQ:(fun(v:AV) (_:Heap)=>v=.int .i64 (ceil l r))=Q;conv=>whnf
 refine aM false ?_;conv=>whnf
 refine sj [0] (i:=2) (v':=.fp [.fz k (ey l)] 0) rfl (.ptr' (by simp) rfl (.clean (l:=[.fz k (ey l)]) (by simp[cw,AV.cl,bW]))) ?_;refine sj [1] (i:=3) (v':=.fp [.int .i64 r] 0) rfl (.ptr' (by simp) rfl (.clean rfl)) ?_;refine aA (z:=false) ?_;conv=>whnf
 refine aO (GF (g:=mM l r) k l hl (by simp[cw,AV.cl,bW]) (fun j hj=>MY k l hl r j _)) ?_;conv=>whnf
 subst hQ;rfl
structure Op where
 k:Int
 n:Int
 s:List UInt8
def op(o:Op):AV:=.agg [.int .i64 o.k,.int .i64 o.n,.str o.s]
def ops(l:List Op):List AV:=l.map op
def opN(k n:Int):Bool:=
 if k=1∨k=8 then decide (1≤n∧n≤64) else if k=2∨k=7∨k=6 then decide (0≤n∧n≤7) else if k=3∨k=4∨k=5 then decide (n=0) else false
def opS(k:Int)(s:List UInt8):Bool:=if k=6 then decide (s.length≤16) else decide (s.length=0)
def Am(o:Op):Bool:=opN o.k o.n&&opS o.k o.s
def uL(o:Op):Int:=if Am o=true then 0 else 2
theorem eE{α:Type}{x:Option α}{v:α}{f:α→Prop}(hx:x=some v)(hf:f v):@Option.rec α (fun _=>Prop) False f x:=by
 subst hx;exact hf
def Ht(k:Int):Int:=if k=1∨k=8 then 1 else 0
def Hs(k:Int):Int:=if k=1∨k=8 then 64 else if k=2∨k=6∨k=7 then 7 else 0
def Hu(k:Int):Bool:=decide (1≤k∧k≤8)
def OR(k lo hi:Int):AV×AV:=(.int .i64 k,.agg [.int .i64 lo,.int .i64 hi])
def OS:List (AV×AV):=[OR 1 1 64,OR 8 1 64,OR 2 0 7,OR 6 0 7,OR 7 0 7,OR 3 0 0,OR 4 0 0,OR 5 0 0]
theorem OU{b:Nat}{h:Heap}(k:Int){bs:List Nat}{c:Nat}(hg:h.get b=some (.map OS bs c)):rV (.lookup true (.agg [.int .i64 0,.int .i64 0])) [.map b,.int .i64 k] h=some (.cD [.agg [.int .i64 (Ht k),.int .i64 (Hs k)],.bool (Hu k)]):=by
 show rI (.lookup true (.agg [.int .i64 0,.int .i64 0])) [.map b,.int .i64 k] h=_;simp only[rI,hg];by_cases hk:1≤k∧k≤8
 ·have:k=1∨k=2∨k=3∨k=4∨k=5∨k=6∨k=7∨k=8:=by omega
  rcases this with h|h|h|h|h|h|h|h<;>subst h<;>rfl
 ·have h1:findKey (.int .i64 k) OS=some none:=by
   have e:∀c:Int,1≤c→c≤8→fk (.int .i64 k) (.int .i64 c)=some false:=by
    intro c c1 c2;show some (k==c)=some false;refine congrArg some (beq_eq_false_iff_ne.2 ?_);omega
   simp only[OS,OR,findKey,e _ (show(1:Int)≤1 by decide) (by decide),e 2 (by decide) (by decide),e 3 (by decide) (by decide),e 4 (by decide) (by decide),e 5 (by decide) (by decide),e 6 (by decide) (by decide),e 7 (by decide) (by decide),e 8 (by decide) (by decide)]
  rw[h1];simp only[Ht,Hs,Hu,hk,decide_false];rw[if_neg (by omega),if_neg (by omega),if_neg (by omega)];rfl
def aaW(o:Op):Heap:=hk 1 [(0,.cells (op o).cells true 0)]
def spH(o:Op):Heap:=hk 4 [(0,.cells (op o).cells true 0),(1,.cells [.int .i64 1,.int .i64 64] true 0),(2,.cells [.int .i64 0,.int .i64 7] true 0),(3,.map OS [0,1,2,3,4,5,6,7] 8)]
theorem aaX(o:Op):VD fs ms 184 [] (aaW o) fun v h=>v=.map 3∧h=spH o:=by
 refine ak (af:=MD) false rfl (Nat.le_of_ble_eq_true rfl) ?_;generalize hQ:(fun(v:AV) (h:Heap)=>v=.map 3∧h=spH o)=Q;conv=>whnf
 refine⟨_,_,rfl,?_⟩;conv=>whnf
 refine⟨_,_,rfl,?_⟩;conv=>whnf
 refine⟨_,_,rfl,?_⟩;conv=>whnf
 refine⟨_,_,rfl,?_⟩;conv=>whnf
 refine⟨_,_,rfl,?_⟩;conv=>whnf
 refine⟨_,_,rfl,?_⟩;conv=>whnf
 refine⟨_,_,rfl,?_⟩;conv=>whnf
 refine⟨_,_,rfl,?_⟩;conv=>whnf
 subst hQ;exact⟨rfl,rfl⟩
theorem B7(o:Op):Am o=true↔(Hu o.k=true∧Ht o.k≤o.n∧o.n≤Hs o.k∧o.s.length≤if o.k=6 then 16 else 0):=by
 obtain⟨k,n,s⟩:=o;simp only[Am,opN,opS,Hu,Ht,Hs,Bool.and_eq_true,decide_eq_true_eq];generalize s.length=L;by_cases hk:1≤k∧k≤8
 ·have:k=1∨k=2∨k=3∨k=4∨k=5∨k=6∨k=7∨k=8:=by omega
  rcases this with h|h|h|h|h|h|h|h<;>subst h<;>simp<;>omega
 ·rw[if_neg (by omega),if_neg (by omega),if_neg (by omega)];simp[hk]
theorem Iw{o:Op}(h:¬(Hu o.k=true∧Ht o.k≤o.n∧o.n≤Hs o.k∧o.s.length≤if o.k=6 then 16 else 0)):2=uL o:=by
 rw[uL,if_neg (fun e=>h ((B7 o).1 e))]
theorem Eu{o:Op}(h:Hu o.k=true∧Ht o.k≤o.n∧o.n≤Hs o.k∧o.s.length≤if o.k=6 then 16 else 0):0=uL o:=by
 rw[uL,if_pos ((B7 o).2 h)]
theorem H7(o:Op):PC fs ms 170 [op o] (.int .i64 (uL o)):=by
 refine cG rfl rfl ?_;refine ak (af:=Ms) false rfl (Nat.le_of_ble_eq_true rfl) ?_;generalize hQ:(fun(v:AV) (_:Heap)=>v=.int .i64 (uL o))=Q;conv=>whnf
 refine VD.mono (aaX o) ?_;rintro v h ⟨rfl,rfl⟩;conv=>whnf
 refine eE (OU o.k rfl) ?_;conv=>whnf
 refine⟨nL (by(conv=>whnf);repeat' (first|exact trivial|(exact⟨rfl,rfl,.inr ⟨_,_,rfl⟩⟩)|(refine⟨rfl,rfl,.inl ⟨rfl,fun o ho=>?_⟩⟩;cases ho;first|rfl)|(exact⟨rfl,.inr ⟨_,_,rfl⟩⟩)|(refine⟨rfl,.inl ⟨rfl,fun i o hi ho=>?_⟩⟩;cases hi;cases ho;first|rfl)|(refine And.intro (fun fI=>(Bool.false_ne_true fI).elim) ?_<;>conv=>whnf)|(refine And.intro (fun _=>?_) ?_<;>conv=>whnf)|(refine And.intro ?_ ?_<;>conv=>whnf))),?_⟩;conv=>whnf
 iterate 8 (all_goals (first|(refine br (fun hc=>?_) (fun hc=>?_)<;>(try rw[hc])<;>(conv=>whnf))|skip))
 all_goals (subst hQ;refine congrArg (AV.int .i64) ?_)
 all_goals simp only[beq_iff_eq,beq_eq_false_iff_ne,ne_eq,Bool.not_eq_false',Bool.not_eq_true',decide_eq_true_eq,decide_eq_false_iff_not] at*
 all_goals first
  |(refine Iw ?_;rintro⟨e1,e2,e3,e4⟩;simp_all;omega)
  |(refine Iw ?_;rintro⟨e1,e2,e3,e4⟩;simp_all;done)
  |(refine Eu ⟨by assumption,by omega,by omega,?_⟩;simp_all;omega)
  |(refine Eu ⟨by assumption,by omega,by omega,?_⟩;simp_all;done)
  |skip
 all_goals trace_state
theorem o5(l:List Op):cw (ops l)=true:=qp (enc:=op) (fun _=>rfl) l
theorem og(l:List Op):(ops l).length=l.length:=List.length_map ..
theorem w9(l:List Op):aR 3 (ops l)=true:=gO (enc:=op) (fun _=>rfl) l
theorem Dr{l:List Op}{j k:Nat}(hj:j<l.length):pV (.aG 3) [.fz k (ops l),.int .i64 (j:Nat)]=some (.fp (op l[j]).cells 0):=vk (enc:=op) hj rfl
theorem NW{F:Nat}{aF:List AV}{p:Op→Bool}(k:Nat)(l:List Op)(hl:l.length<2^62)(hcap:cw aF=true)(hp:∀m,m∈l→PC fs ms F (op m::aF) (.bool (p m))):
  ∃n:Int,PC fs ms 183 [.fz k (ops l),.func (.func F) [] aF] (.int .i64 n)∧decide (n≥0)=l.any p:=by
 by_cases ha:l.any p=true
 ·obtain⟨j,hj,h1,h2⟩:=qz (l:=l) (p:=fun m=>p m=true) (by simpa using ha);refine⟨(j:Nat),?_,by rw[ha];simp⟩;refine cG (by simp[cw,AV.cl,o5,hcap]) rfl ?_;refine ak (af:=HT) false rfl (Nat.le_of_ble_eq_true rfl) ?_;generalize hQ:(fun(v:AV) (_:Heap)=>v=.int .i64 (j:Nat))=Q;conv=>whnf
  refine iZ 5 [(0,.fz k (ops l)),(1,.func (.func F) [] aF),(7,.int .i64 (ops l).length),(8,.int .i64 ((0:Nat):Int))] (by repeat' (first|exact trivial|refine cW rfl (by omega) ?_|refine cF rfl (by omega) ?_|refine bQ rfl (by omega) ?_|refine bl rfl (by first|rfl|simp[cw,AV.cl,bS,o5,hcap]) ?_|refine bl (aL (by omega)) rfl ?_)) ?_;refine iT 5 j (fun _=>True) (fun i=>[(0,.fz k (ops l)),(1,.func (.func F) [] aF),(7,.int .i64 (ops l).length),(8,.int .i64 (i:Nat))]) ?_ ?_ trivial
  ·intro i hi _;conv=>whnf
   refine br (fun hc=>?_) (fun hc=>?_)<;>(try rw[hc])<;>(conv=>whnf)
   ·refine⟨_,Dr (by omega),?_⟩;conv=>whnf
    refine aO (hp _ (List.getElem_mem _)) ?_;conv=>whnf
    refine br (fun hc=>?_) (fun hc=>?_)<;>(try rw[hc])<;>(conv=>whnf)
    ·exact absurd hc (h2 i (by omega) hi)
    ·refine⟨trivial,⟨_,rfl,.cl (by simp[AV.cl,o5])⟩,⟨_,rfl,.cl (by simp[AV.cl,cw,hcap])⟩,⟨_,rfl,.cl rfl⟩,⟨_,aL (by omega),.cl rfl⟩,trivial⟩
   ·exfalso;have:=of_decide_eq_false hc;rw[og] at this;omega
  ·intro _;conv=>whnf
   refine br (fun hc=>?_) (fun hc=>?_)<;>(try rw[hc])<;>(conv=>whnf)
   ·refine⟨_,Dr hj,?_⟩;conv=>whnf
    refine aO (hp _ (List.getElem_mem _)) ?_;conv=>whnf
    refine br (fun hc=>?_) (fun hc=>?_)<;>(try rw[hc])<;>(conv=>whnf)
    ·subst hQ;rfl
    ·rw[h1] at hc;simp at hc
   ·exfalso;have:=of_decide_eq_false hc;rw[og] at this;omega
 ·have hn:∀m,m∈l→p m=false:=by
   intro m hm;rw[Bool.eq_false_iff];intro h;exact ha (List.any_eq_true.2 ⟨m,hm,h⟩)
  refine⟨-1,?_,by rw[Bool.eq_false_iff.2 ha];decide⟩;refine cG (by simp[cw,AV.cl,o5,hcap]) rfl ?_;refine ak (af:=HT) false rfl (Nat.le_of_ble_eq_true rfl) ?_;generalize hQ:(fun(v:AV) (_:Heap)=>v=.int .i64 (-1))=Q;conv=>whnf
  refine iZ 5 [(0,.fz k (ops l)),(1,.func (.func F) [] aF),(7,.int .i64 (ops l).length),(8,.int .i64 ((0:Nat):Int))] (by repeat' (first|exact trivial|refine cW rfl (by omega) ?_|refine cF rfl (by omega) ?_|refine bQ rfl (by omega) ?_|refine bl rfl (by first|rfl|simp[cw,AV.cl,bS,o5,hcap]) ?_|refine bl (aL (by omega)) rfl ?_)) ?_;refine iT 5 l.length (fun _=>True) (fun i=>[(0,.fz k (ops l)),(1,.func (.func F) [] aF),(7,.int .i64 (ops l).length),(8,.int .i64 (i:Nat))]) ?_ ?_ trivial
  ·intro i hi _;conv=>whnf
   refine br (fun hc=>?_) (fun hc=>?_)<;>(try rw[hc])<;>(conv=>whnf)
   ·refine⟨_,Dr (by omega),?_⟩;conv=>whnf
    refine aO (hp _ (List.getElem_mem _)) ?_;conv=>whnf
    refine br (fun hc=>?_) (fun hc=>?_)<;>(try rw[hc])<;>(conv=>whnf)
    ·rw[hn _ (List.getElem_mem hi)] at hc;simp at hc
    ·refine⟨trivial,⟨_,rfl,.cl (by simp[AV.cl,o5])⟩,⟨_,rfl,.cl (by simp[AV.cl,cw,hcap])⟩,⟨_,rfl,.cl rfl⟩,⟨_,aL (by omega),.cl rfl⟩,trivial⟩
   ·exfalso;have:=of_decide_eq_false hc;rw[og] at this;omega
  ·intro _;conv=>whnf
   refine br (fun hc=>?_) (fun hc=>?_)<;>(try rw[hc])<;>(conv=>whnf)
   ·exfalso;have:=of_decide_eq_true hc;rw[og] at this;omega
   ·subst hQ;rfl
theorem Qh{F:Nat}{aF:List AV}{p:Op→Bool}(k:Nat)(l:List Op)(hl:l.length<2^62)(hcap:cw aF=true)(hp:∀m,m∈l→PC fs ms F (op m::aF) (.bool (p m))):
  PC fs ms 168 [.fz k (ops l),.func (.func F) [] aF] (.bool (l.any p)):=by
 obtain⟨n,c1,c2⟩:=NW k l hl hcap hp;refine cG (by simp[cw,AV.cl,o5,hcap]) rfl ?_;refine ak (af:=Mq) false rfl (Nat.le_of_ble_eq_true rfl) ?_;generalize hQ:(fun(v:AV) (_:Heap)=>v=.bool (l.any p))=Q;conv=>whnf
 refine aO c1 ?_;conv=>whnf
 subst hQ;exact congrArg AV.bool c2
theorem Kx(o:Op):(uL o !=0)=!Am o:=by
 cases h:Am o<;>simp[uL,h]
theorem Sh(o:Op):PC fs ms 169 [op o] (.bool (!Am o)):=by
 refine cG rfl rfl ?_;refine ak (af:=Mr) false rfl (Nat.le_of_ble_eq_true rfl) ?_;generalize hQ:(fun(v:AV) (_:Heap)=>v=.bool (!Am o))=Q;conv=>whnf
 refine aO (H7 o) ?_;conv=>whnf
 subst hQ;exact congrArg AV.bool (Kx o)
theorem Ky(k:Nat)(l:List Op)(hl:l.length<2^62):PC fs ms 168 [.fz k (ops l),.func (.func 169) [] []] (.bool (l.any fun o=>!Am o)):=
 Qh k l hl rfl (fun m _=>Sh m)
theorem Sw(n:Int):PC fs ms 102 [.int .i64 n] (.bool (decide (1≤n∧n≤64))):=by
 refine cG rfl rfl ?_;refine ak (af:=LF) false rfl (Nat.le_of_ble_eq_true rfl) ?_;generalize hQ:(fun(v:AV) (_:Heap)=>v=.bool (decide (1≤n∧n≤64)))=Q;conv=>whnf
 iterate 3 (all_goals (first|(refine br (fun hc=>?_) (fun hc=>?_)<;>(try rw[hc])<;>(conv=>whnf))|skip))
 all_goals (subst hQ;refine congrArg AV.bool ?_;rw[Bool.eq_iff_iff];simp at*;omega)
def nZ(n t:Int):Int:=if t<0 then 2 else if t>1099511627776 then 10 else if t<n then 140 else 0
def gB(p n:Int):ck:=.cells [.int .i64 p,.int .i64 n] true 0
theorem EH{h:Heap}{b:Nat}{p n:Int}(hg:h.get b=some (gB p n))(hp:p≠0){Q:AV→Heap→Prop}(hQ:Q (.bool false) h):VD fs ms 144 [.ptr b 0] h Q:=by
 refine ak (af:=Mb) true rfl (Nat.le_of_ble_eq_true rfl) ?_;conv=>whnf
 refine⟨_,bU hg rfl,?_⟩;conv=>whnf
 rw[show(p==0)=false from beq_eq_false_iff_ne.2 hp];exact hQ
theorem QF{h:Heap}{b:Nat}{p n t:Int}(hg:h.get b=some (gB p n))(hp:p≠0){Q:AV→Heap→Prop}(hQ:Q (.int .i64 (nZ n t)) h):VD fs ms 142 [.ptr b 0,.int .i64 t] h Q:=by
 refine ak (af:=LZ) true rfl (Nat.le_of_ble_eq_true rfl) ?_;conv=>whnf
 refine EH hg hp ?_;conv=>whnf
 refine br (fun hc=>?_) (fun hc=>?_)<;>(try rw[hc])<;>(conv=>whnf)
 ·rw[nZ,if_pos (of_decide_eq_true hc)] at hQ;exact hQ
 ·rw[nZ,if_neg (of_decide_eq_false hc)] at hQ;refine br (fun hc=>?_) (fun hc=>?_)<;>(try rw[hc])<;>(conv=>whnf)
  ·rw[if_pos (of_decide_eq_true hc)] at hQ;exact hQ
  ·rw[if_neg (of_decide_eq_false hc)] at hQ;refine⟨_,bU hg rfl,?_⟩;conv=>whnf
   refine br (fun hc=>?_) (fun hc=>?_)<;>(try rw[hc])<;>(conv=>whnf)
   ·rw[if_pos (of_decide_eq_true hc)] at hQ;exact hQ
   ·rw[if_neg (of_decide_eq_false hc)] at hQ;exact hQ
theorem Xd{h:Heap}{b:Nat}{p n:Int}(hg:h.get b=some (gB p n))(hp:p≠0){Q:AV→Heap→Prop}(hQ:Q (.int .i64 n) h):VD fs ms 98 [.ptr b 0] h Q:=by
 refine ak (af:=WU) true rfl (Nat.le_of_ble_eq_true rfl) ?_;conv=>whnf
 refine EH hg hp ?_;conv=>whnf
 refine⟨_,bU hg rfl,?_⟩;conv=>whnf
 exact hQ
def I6(p n t:Int):Int:=if nZ n t=0 then IntKind.i64.wrap (t+p) else n
theorem QK{h:Heap}{b:Nat}{p n t:Int}(hg:h.get b=some (gB p n))(hp:p≠0){Q:AV→Heap→Prop}(hQ:∀h',h'.get b=some (gB p (I6 p n t))→Fr h h' [b]→Q (.int .i64 (nZ n t)) h'):VD fs ms 96 [.ptr b 0,.int .i64 t] h Q:=by
 refine ak (af:=WS) true rfl (Nat.le_of_ble_eq_true rfl) ?_;conv=>whnf
 refine QF hg hp ?_;conv=>whnf
 refine br (fun hc=>?_) (fun hc=>?_)<;>(try rw[hc])<;>(conv=>whnf)
 ·refine⟨_,bU hg rfl,?_⟩;conv=>whnf
  refine⟨_,_,tv hg rfl rfl rfl,?_⟩;conv=>whnf
  have h0:nZ n t=0:=by simpa using hc
  refine hQ _ ?_ ?_
  ·rw[I6,if_pos h0];exact aC
  ·exact(Fr.refl _ _).set (by simp)
 ·have h0:¬nZ n t=0:=by simpa using hc
  refine hQ _ ?_ ?_
  ·rw[I6,if_neg h0];exact hg
  ·exact Fr.refl _ _
theorem QI{h:Heap}{n:Int}{Q:AV→Heap→Prop}(h1:1≤n∧n≤64→Q (.cD [.ptr h.next 0,.int .i64 0]) (h.new (gB n 0)))(h2:¬(1≤n∧n≤64)→Q (.cD [.bq,.int .i64 2]) h):VD fs ms 37 [.int .i64 n] h Q:=by
 refine ak (af:=Wj) true rfl (Nat.le_of_ble_eq_true rfl) ?_;conv=>whnf
 refine aO (Sw n) ?_;conv=>whnf
 refine br (fun hc=>?_) (fun hc=>?_)<;>(try rw[hc])<;>(conv=>whnf)
 ·exact h2 (by simp at hc;omega)
 ·exact h1 (by simp at hc;omega)
def Fj:Op:=⟨0,0,[]⟩
def Av(l:List Op):Bool:=match l with
 |[]=>true
 |x::_=>x.k==1
def zT(l:List Op):List Op:=if Av l then l else l.tail
def uY(l:List Op):Bool:=match l with
 |[]=>false
 |x::_=>x.k==1
def s6:List Op→List Op
 |[]=>[]
 |x::r=>if x.k==1 then(if IntKind.i64.wrap (x.n-1)==0 then r else{x with n:=IntKind.i64.wrap (x.n-1)}::r) else x::r
def uJ(l:List Op):Int:=l.foldl (fun a x=>if x.k==1 then IntKind.i64.wrap (a+x.n) else a) 0
def SN(v:AV):Prop:=v=.aH∨(∃x y z,v=.rest x y z)∨(∃k,v=.fz k [])∨∃b o op,v=.sl b o 0 0 op
def qU(h:Heap)(C o:Nat)(v:AV)(l:List Op):Prop:=match l with
 |[]=>SN v
 |_::_=>∃p cs,v=.sl C o l.length l.length p∧C<h.next∧h.get C=some (.cells cs true 3)∧cs.drop o=aa (ops l)
theorem SN.len{v:AV}(e:SN v):pV .bX [v]=some (.int .i64 0):=by
 rcases e with rfl|⟨_,_,_,rfl⟩|⟨_,rfl⟩|⟨_,_,_,rfl⟩<;>rfl
theorem qU.len{h:Heap}{C o:Nat}{v:AV}{l:List Op}(r:qU h C o v l):pV .bX [v]=some (.int .i64 ((l.length:Nat):Int)):=by
 cases l with
 |nil=>exact SN.len r
 |cons x l=>obtain⟨p,cs,rfl,_⟩:=r;rfl
theorem qU.keep{h h':Heap}{C o:Nat}{v:AV}{l:List Op}{bs:List Nat}(r:qU h C o v l)(f:Fr h h' bs)(hC:l≠[]→C∉bs):qU h' C o v l:=by
 cases l with
 |nil=>exact r
 |cons x l=>
  obtain⟨p,cs,e,h1,h2,h3⟩:=r;exact⟨p,cs,e,Nat.lt_of_lt_of_le h1 f.next,(f.keep C h1 (hC (by simp))).trans h2,h3⟩
theorem aaF{α:Type}(x:α)(l:List α):((((x::l).length:Nat):Int)==0)=false:=beq_eq_false_iff_ne.2 (by rw[List.length_cons];omega)
section
variable {h:Heap} {C o:Nat} {v:AV} {x:Op} {l:List Op}
theorem qU.idx(r:qU h C o v (x::l)):pV (.aG 3) [v,.int .i64 0]=some (.ptr C o):=by
 obtain⟨p,cs,rfl,_⟩:=r;rfl
theorem II{α:Type}{cs:List α}{o i:Nat}{l:List α}(h:cs.drop o=l):cs[o+i]?=l[i]?:=by rw[←h,List.getElem?_drop]
theorem qU.ld(r:qU h C o v (x::l))(i:Nat){u:AV}(hu:(op x).cells[i]?=some u):rV .bY [.ptr C (o+i)] h=some u:=by
 obtain⟨p,cs,rfl,h1,h2,h3⟩:=r;refine bU h2 ?_;rw[II h3];show((op x).cells++aa (ops l))[i]?=_;rw[List.getElem?_append_left (List.getElem?_eq_some_iff.1 hu).1];exact hu
theorem qU.xA(r:qU h C o v (x::l)):rV (.bf 3) [.ptr C o] h=some (op x):=by
 obtain⟨p,cs,rfl,h1,h2,h3⟩:=r;have hl:3≤(cs.drop o).length:=by
  rw[h3];show 3≤((op x).cells++aa (ops l)).length;rw[List.length_append];exact Nat.le_add_right _ _
 rw[List.length_drop] at hl;have:=Ads.xA (o:=o) (n:=3) h2 (by omega);rw[h3] at this;exact this
theorem qU.st(r:qU h C o v (x::l))(m:Int):∃h',eV (.store 1) [.ptr C (o+1),.int .i64 m] h=some (.undef,h')∧qU h' C o v ({x with n:=m}::l)∧Fr h h' [C]:=by
 obtain⟨p,cs,rfl,h1,h2,h3⟩:=r;have hl:cs.length=o+(3+(aa (ops l)).length):=by
  have:=congrArg List.length h3;rw[List.length_drop] at this;have e:(aa (ops (x::l))).length=3+(aa (ops l)).length:=by
   show((op x).cells++aa (ops l)).length=_;rw[List.length_append];rfl
  omega
 have hst:=cj (o:=o+1) (n:=1) (v:=.int .i64 m) h2 rfl (by omega) rfl;rw[show(AV.int IntKind.i64 m).cells=[.int .i64 m] from rfl,lM _ _ _ (by omega)] at hst;refine⟨_,hst,⟨p,cs.set (o+1) (.int .i64 m),rfl,h1,aC,?_⟩,(Fr.refl _ _).set (by simp)⟩;rw[List.drop_set,if_neg (by omega),h3,show o+1-o=1 by omega];rfl
theorem eS:aa (ops (x::l))=.int .i64 x.k::.int .i64 x.n::.str x.s::aa (ops l):=rfl
theorem qU.ab5(r:qU h C o v (x::l)):∃v' o',pV (.slice 3 true false false) [v,.int .i64 1]=some v'∧qU h C o' v' l:=by
 obtain⟨p,cs,rfl,h1,h2,h3⟩:=r;have hb:bounds (l.length+1) (l.length+1) true false false [.int .i64 1]=some (1,l.length+1,l.length+1):=by
  have b1:Nat.ble 1 (l.length+1)=true:=Nat.ble_eq_true_of_le (by omega);have b2:Nat.ble (l.length+1) (l.length+1)=true:=Nat.ble_eq_true_of_le (by omega);show cond (Nat.ble 1 (l.length+1)&&Nat.ble (l.length+1) (l.length+1)&&Nat.ble (l.length+1) (l.length+1)) _ _=_;rw[b1,b2];rfl
 have he:pV (.slice 3 true false false) [.sl C o (x::l).length (x::l).length p,.int .i64 1]=(match bounds (l.length+1) (l.length+1) true false false [.int .i64 1] with
   |some (a,hh,mm)=>cond (Nat.beq mm a&&Nat.beq (l.length+1) mm&&(p&&!false&&!Nat.beq a 0)) (some (.rest C o (a*3))) (some (.sl C (o+cond (Nat.beq mm a) 0 (a*3)) (hh-a) (mm-a) p))
   |none=>none):=rfl
 rw[he,hb];cases l with
 |nil=>cases p<;>exact⟨_,o,rfl,by simp[qU,SN]⟩
 |cons y l=>
  refine⟨.sl C (o+3) (l.length+1) (l.length+1) p,o+3,by cases p<;>rfl,p,cs,rfl,h1,h2,?_⟩;rw[←List.drop_drop,h3,eS];rfl
theorem qU.VR(r:qU h C o v (x::l)):∃v' o',pV (.slice 3 true true true) [v,.int .i64 1,.int .i64 (((x::l).length:Nat):Int),.int .i64 (((x::l).length:Nat):Int)]=some v'∧qU h C o' v' l:=by
 obtain⟨p,cs,rfl,h1,h2,h3⟩:=r;have hb:bounds (l.length+1) (l.length+1) true true true [.int .i64 1,.int .i64 (((x::l).length:Nat):Int),.int .i64 (((x::l).length:Nat):Int)]=some (1,l.length+1,l.length+1):=by
  have b1:Nat.ble 1 (l.length+1)=true:=Nat.ble_eq_true_of_le (by omega);have b2:Nat.ble (l.length+1) (l.length+1)=true:=Nat.ble_eq_true_of_le (by omega);show cond (Nat.ble 1 (l.length+1)&&Nat.ble (l.length+1) (l.length+1)&&Nat.ble (l.length+1) (l.length+1)) _ _=_;rw[b1,b2];rfl
 have he:pV (.slice 3 true true true) [.sl C o (x::l).length (x::l).length p,.int .i64 1,.int .i64 (((x::l).length:Nat):Int),.int .i64 (((x::l).length:Nat):Int)]=(match bounds (l.length+1) (l.length+1) true true true [.int .i64 1,.int .i64 (((x::l).length:Nat):Int),.int .i64 (((x::l).length:Nat):Int)] with
   |some (a,hh,mm)=>cond (Nat.beq mm a&&Nat.beq (l.length+1) mm&&(p&&!true&&!Nat.beq a 0)) (some (.rest C o (a*3))) (some (.sl C (o+cond (Nat.beq mm a) 0 (a*3)) (hh-a) (mm-a) false))
   |none=>none):=rfl
 rw[he,hb];cases l with
 |nil=>cases p<;>exact⟨_,o,rfl,by simp[qU,SN]⟩
 |cons y l=>
  refine⟨.sl C (o+3) (l.length+1) (l.length+1) false,o+3,by cases p<;>rfl,false,cs,rfl,h1,h2,?_⟩;rw[←List.drop_drop,h3,eS];rfl
end
structure Rw(h:Heap)(b C o:Nat)(tl:List AV)(v:AV)(l:List Op):Prop where
 lt:b<h.next
 ne:l≠[]→b≠C
 st:h.get b=some (.cells (v::tl) true 0)
 row:qU h C o v l
theorem Rw.keep{h h':Heap}{b C o:Nat}{tl:List AV}{v:AV}{l:List Op}(r:Rw h b C o tl v l)(f:Fr h h' []):Rw h' b C o tl v l:=
 ⟨Nat.lt_of_lt_of_le r.lt f.next,r.ne,(f.keep b r.lt (by simp)).trans r.st,r.row.keep f (by simp)⟩
theorem qU.flat{h:Heap}{C o:Nat}{v:AV}{l:List Op}(r:qU h C o v l):v.cells=[v]∧bz [v]=true:=by
 cases l with
 |nil=>rcases r with rfl|⟨_,_,_,rfl⟩|⟨_,rfl⟩|⟨_,_,_,rfl⟩<;>exact⟨rfl,rfl⟩
 |cons x l=>obtain⟨p,cs,rfl,_⟩:=r;exact⟨rfl,rfl⟩
theorem Rw.set{h:Heap}{b C o o':Nat}{tl:List AV}{v v':AV}{x:Op}{l l':List Op}(r:Rw h b C o tl v (x::l))(r':qU h C o' v' l'):
  ∃h',eV (.store 1) [.ptr b 0,v'] h=some (.undef,h')∧Rw h' b C o' tl v' l'∧Fr h h' [b]:=by
 obtain⟨e1,e2⟩:=r'.flat;have hst:=cj (o:=0) (n:=1) (v:=v') r.st (by rw[e1];rfl) (by simp) (by rw[e1];exact e2);rw[e1,show Heap.splice (v::tl) 0 [v']=v'::tl by show v'::Heap.splice tl 0 []=_;rw[eF]] at hst;have fr:Fr h (h.set b (.cells (v'::tl) true 0)) [b]:=(Fr.refl _ _).set (by simp);exact⟨_,hst,⟨r.lt,fun _=>r.ne (by simp),aC,r'.keep fr (fun _=>by simpa using(r.ne (by simp)).symm)⟩,fr⟩
theorem Rw.stN{h:Heap}{b C o:Nat}{tl:List AV}{v:AV}{x:Op}{l:List Op}(r:Rw h b C o tl v (x::l))(m:Int):
  ∃h',eV (.store 1) [.ptr C (o+1),.int .i64 m] h=some (.undef,h')∧Rw h' b C o tl v ({x with n:=m}::l)∧Fr h h' [C]:=by
 obtain⟨h',e,r',fr⟩:=r.row.st m;exact⟨h',e,⟨Nat.lt_of_lt_of_le r.lt fr.next,fun _=>r.ne (by simp),(fr.keep b r.lt (by simpa using r.ne (by simp))).trans r.st,r'⟩,fr⟩
section
variable {h:Heap} {b C o:Nat} {v:AV} {l:List Op} {Q:AV→Heap→Prop}
theorem Rw.Lx{tl:List AV}(r:Rw h b C o tl v l):rV .bY [.ptr b 0] h=some v:=bU r.st rfl
theorem va(r:Rw h b C o [.bool true] v l)(hQ:Q (.bool false) h):VD fs ms 161 [.ptr b 0] h Q:=by
 refine ak (af:=Mk) true rfl (Nat.le_of_ble_eq_true rfl) ?_;conv=>whnf
 refine⟨_,bU r.st rfl,?_⟩;conv=>whnf
 exact hQ
theorem Em(r:Rw h b C o [.bool true] v l)(hQ:Q (.bool (uY l)) h):VD fs ms 162 [.ptr b 0] h Q:=by
 refine ak (af:=Ml) true rfl (Nat.le_of_ble_eq_true rfl) ?_;conv=>whnf
 refine⟨_,r.Lx,?_⟩;conv=>whnf
 refine eE r.row.len ?_;conv=>whnf
 cases l with
 |nil=>
  conv=>whnf
  exact hQ
 |cons x l=>
  refine qO (decide_eq_true (by simp)) (fun hc=>?_)
  (try rw[hc])
  conv=>whnf
  refine⟨_,r.Lx,?_⟩;conv=>whnf
  refine⟨_,r.row.idx,?_⟩;conv=>whnf
  refine⟨_,r.row.ld 0 rfl,?_⟩;conv=>whnf
  exact hQ
theorem O9{x:Op}(r:Rw h b C o [.bool true] v (x::l))(hQ:∀h' v' o',Rw h' b C o' [.bool true] v' l→Fr h h' [b]→Q (.cD []) h'):VD fs ms 163 [.ptr b 0] h Q:=by
 obtain⟨v',o',e,r'⟩:=r.row.VR;obtain⟨h',s,rw',fr⟩:=r.set r';refine ak (af:=Mm) true rfl (Nat.le_of_ble_eq_true rfl) ?_;conv=>whnf
 repeat(first|(refine⟨_,r.Lx,?_⟩;conv=>whnf))
 refine eE r.row.len ?_;conv=>whnf
 repeat(first|(refine⟨_,r.Lx,?_⟩;conv=>whnf))
 refine eE r.row.len ?_;conv=>whnf
 refine⟨_,e,?_⟩;conv=>whnf
 refine⟨_,_,s,?_⟩;conv=>whnf
 exact hQ _ _ _ rw' fr
theorem P8(r:Rw h b C o [.bool true] v l)(hQ:∀h' v' o',Rw h' b C o' [.bool true] v' (zT l)→Fr h h' [b]→Q (.int .i64 (if Av l then 250 else 0)) h'):VD fs ms 132 [.ptr b 0] h Q:=by
 refine ak (af:=LP) true rfl (Nat.le_of_ble_eq_true rfl) ?_;conv=>whnf
 refine va r ?_;conv=>whnf
 repeat(first|(refine⟨_,r.Lx,?_⟩;conv=>whnf))
 refine eE r.row.len ?_;conv=>whnf
 cases l with
 |nil=>
  conv=>whnf
  exact hQ _ _ _ r (Fr.refl _ _)
 |cons x l=>
  conv=>whnf
  refine Em r ?_;conv=>whnf
  refine br (fun hc=>?_) (fun hc=>?_)<;>(try rw[hc])<;>(conv=>whnf)
  ·have hk:(x.k==1)=true:=hc;have:=hQ _ _ _ (show Rw h b C o [.bool true] v (zT (x::l)) by simp only[zT,Av,hk];exact r) (Fr.refl _ _);simp only[Av,hk] at this;exact this
  ·have hk:(x.k==1)=false:=hc;refine O9 r fun h' v' o' r' fr=>?_;conv=>whnf
   have:=hQ h' v' o' (by simp only[zT,Av,hk];exact r') fr;simp only[Av,hk] at this;exact this
theorem Qa(r:Rw h b C o [.bool true] v l)(hQ:∀h' v' o',Rw h' b C o' [.bool true] v' (s6 l)→Fr h h' [b,C]→Q (.int .i64 (if uY l then 0 else 250)) h'):VD fs ms 133 [.ptr b 0] h Q:=by
 refine ak (af:=LQ) true rfl (Nat.le_of_ble_eq_true rfl) ?_;conv=>whnf
 refine va r ?_;conv=>whnf
 refine Em r ?_;conv=>whnf
 cases l with
 |nil=>
  conv=>whnf
  exact hQ _ _ _ r (Fr.refl _ _)
 |cons x l=>
  cases hk:(x.k==1) with
  |false=>
   rw[show uY (x::l)=(x.k==1) from rfl,hk] at hQ⊢;conv=>whnf
   exact hQ _ _ _ (by simp only[s6,hk];exact r) (Fr.refl _ _)
  |true=>
   rw[show uY (x::l)=(x.k==1) from rfl,hk] at hQ⊢;conv=>whnf
   repeat(first|(refine⟨_,r.Lx,?_⟩;conv=>whnf))
   repeat(first|(refine⟨_,r.row.idx,?_⟩;conv=>whnf))
   repeat(first|(refine⟨_,r.row.ld 1 rfl,?_⟩;conv=>whnf))
   refine⟨_,r.row.idx,?_⟩;conv=>whnf
   obtain⟨h1,e,r1,iX⟩:=r.stN (IntKind.i64.wrap (x.n-1));refine⟨_,_,e,?_⟩;conv=>whnf
   refine⟨_,r1.Lx,?_⟩;conv=>whnf
   refine⟨_,r1.row.idx,?_⟩;conv=>whnf
   refine⟨_,r1.row.ld 1 rfl,?_⟩;conv=>whnf
   have hr:s6 (x::l)=if IntKind.i64.wrap (x.n-1)==0 then l else{x with n:=IntKind.i64.wrap (x.n-1)}::l:=by simp only[s6,hk];rfl
   rw[hr] at hQ;refine br (fun hc=>?_) (fun hc=>?_)<;>(try rw[hc])<;>(conv=>whnf)
   ·rw[if_pos hc] at hQ;refine O9 r1 fun h' v' o' r' fr=>?_;conv=>whnf
    exact hQ h' v' o' r' ((iX.wk (by simp)).trans (fr.wk (by simp)))
   ·rw[if_neg (by rw[hc];simp)] at hQ;exact hQ _ _ _ r1 (iX.wk (by simp))
end
theorem B8:∀{L:List Op} {i:Nat} (h:i<L.length),((aa (ops L)).drop (i*3)).take 3=(op L[i]).cells
 |[],i,h=>by simp at h
 |x::L,0,h=>by rw[Nat.zero_mul,List.drop_zero,eS];rfl
 |x::L,i+1,h=>by
  rw[show(i+1)*3=3+i*3 by omega,←List.drop_drop,eS];exact B8 (L:=L) (i:=i) (by simpa using h)
section
variable {h:Heap} {b C o:Nat} {v:AV} {l:List Op} {Q:AV→Heap→Prop}
theorem qU.at(r:qU h C o v l){j:Nat}(hj:j<l.length):pV (.aG 3) [v,.int .i64 ((j:Nat):Int)]=some (.ptr C (o+j*3))∧rV (.bf 3) [.ptr C (o+j*3)] h=some (op l[j])∧
  ∀i u,(op l[j]).cells[i]?=some u→rV .bY [.ptr C (o+j*3+i)] h=some u:=by
 cases l with
 |nil=>simp at hj
 |cons x l=>
  obtain⟨p,cs,rfl,h1,h2,h3⟩:=r;have hd:(cs.drop (o+j*3)).take 3=(op (x::l)[j]).cells:=by rw[←List.drop_drop,h3];exact B8 hj
  have hl:o+j*3+3≤cs.length:=by
   have:=congrArg List.length hd;rw[List.length_take,List.length_drop] at this;have e:(op (x::l)[j]).cells.length=3:=rfl;omega
  refine⟨?_,?_,fun i u hu=>bU h2 ?_⟩
  ·show cond (Nat.ble (j+1) (x::l).length) _ _=_;rw[Nat.ble_eq_true_of_le hj];rfl
  ·have:=Ads.xA (o:=o+j*3) (n:=3) h2 hl;rw[hd] at this;exact this
  ·have hi:i<3:=(List.getElem?_eq_some_iff.1 hu).1;rw[←hd,List.getElem?_take_of_lt hi,List.getElem?_drop] at hu;exact hu
def PJ(a:Int)(x:Op):Int:=if x.k==1 then IntKind.i64.wrap (a+x.n) else a
theorem Dv{j:Nat}(hj:j<l.length):uJ (l.take (j+1))=PJ (uJ (l.take j)) l[j]:=by
 rw[gy hj,uJ,List.foldl_append];rfl
theorem MP{h0:Heap}(r:qU h0 C o v l)(hl:l.length≤64){B:Nat}{Q:AX→Env→Heap→Prop}(hQ:∀e' h',Fr h0 h' []→Tr.get e' 2=some (.int .i64 (uJ l))→Q (.exit 0) e' h'):
  ∀(m j:Nat) (h:Heap) (env:Env),l.length-j=m→j≤l.length→Fr h0 h []→bZ env [(2,.int .i64 (uJ (l.take j))),(10,v),(11,.int .i64 ((l.length:Nat):Int)),(12,.int .i64 ((j:Nat):Int))]→
  VC fs ms B false (.loop ng) env h Q:=by
 intro m;induction m using Nat.strongRecOn with
 |ind m ih=>
 intro j h env hm hj fr fO;refine aE 4 _ fO ?_;refine mA (aM true ?_);conv=>whnf
 refine aM true ?_;conv=>whnf
 refine br (fun hc=>?_) (fun hc=>?_)<;>(try rw[hc])<;>(conv=>whnf)
 ·have hlt:j<l.length:=by have:=of_decide_eq_true hc;omega
  have hr:=r.keep fr (by simp);obtain⟨e1,e2,-⟩:=hr.at hlt;have m0:=Dv hlt;generalize l[j]=x at*;refine aA (z:=true) ?_;conv=>whnf
  refine⟨_,e1,?_⟩;conv=>whnf
  refine⟨_,e2,?_⟩;conv=>whnf
  refine dV (cj ai rfl (Nat.le_refl _) rfl) fun h1 e1=>?_;have g1:h1.get h.next=some (.cells (op x).cells true 0):=by rw[e1,aC];rfl
  have iX:Fr h h1 []:=by rw[e1];exact((Fr.refl h []).new (x:=_)).qS (Nat.le_refl _)
  clear e1;conv=>whnf
  refine⟨_,bU g1 rfl,?_⟩;conv=>whnf
  rw[PJ] at m0;refine br (fun hc=>?_) (fun hc=>?_)<;>(try rw[hc])<;>(conv=>whnf)
  ·rw[if_pos hc] at m0;refine⟨_,bU g1 rfl,?_⟩;conv=>whnf
   refine ih (l.length-(j+1)) (by omega) (j+1) _ _ rfl (by omega) (fr.trans iX) ⟨by rw[m0];rfl,rfl,rfl,aL (by omega),trivial⟩
  ·rw[if_neg (by rw[hc];simp)] at m0;refine ih (l.length-(j+1)) (by omega) (j+1) _ _ rfl (by omega) (fr.trans iX) ⟨by rw[m0];rfl,rfl,rfl,aL (by omega),trivial⟩
 ·have hge:j=l.length:=by have:=of_decide_eq_false hc;omega
  refine hQ _ _ fr ?_;rw[hge,List.take_length];rfl
theorem MO(r:Rw h b C o [.bool true] v l)(hl:l.length≤64)(hQ:∀h',Fr h h' []→Q (.int .i64 (uJ l)) h'):VD fs ms 145 [.ptr b 0] h Q:=by
 refine dz (af:=Mc) rfl (Nat.le_of_ble_eq_true rfl) ?_;conv=>whnf
 refine aM true ?_;conv=>whnf
 refine bt (aM true ?_);conv=>whnf
 refine va r ?_;conv=>whnf
 refine aA (z:=true) ?_;conv=>whnf
 refine bt (aM true ?_);conv=>whnf
 refine⟨_,r.Lx,?_⟩;conv=>whnf
 refine eE r.row.len ?_;conv=>whnf
 refine bR ?_;refine MP r.row hl ?_ l.length 0 h _ rfl (Nat.zero_le _) (Fr.refl _ _) ⟨rfl,rfl,rfl,rfl,trivial⟩;intro e' h' fr he;refine aE 4 [(2,.int .i64 (uJ l))] ⟨he,trivial⟩ (aA (z:=true) ?_);conv=>whnf
 exact hQ _ fr
end
theorem s9{e:Env}{h:Heap}{a b o n t:Nat}{cs:List AV}{w:AV}(ha:Tr.get e a=some (.ptr b o))(hl:h.bf b o n=some cs)(ht:Tr.get e t=some w):eH e h [.cell a n true,.tmp t]=some [.agg cs,w]:=by
 simp only[eH,oD,ha,hl,ht,Option.map_some,cond_true]
section
variable {h:Heap} {b C o:Nat} {v:AV} {l:List Op} {Q:AV→Heap→Prop}
theorem MQ(r:Rw h b C o [.bool true] v l)(hQ:∀h',Fr h h' []→Q (.cD [op (l.headD Fj),.bool (!l.isEmpty)]) h'):VD fs ms 148 [.ptr b 0] h Q:=by
 refine ak (af:=Mf) true rfl (Nat.le_of_ble_eq_true rfl) ?_;conv=>whnf
 have r1:=r.keep ((Fr.refl h []).new (x:=.cells (op Fj).cells true 0));refine va r1 ?_;conv=>whnf
 refine⟨_,r1.Lx,?_⟩;conv=>whnf
 refine eE r1.row.len ?_;conv=>whnf
 cases l with
 |nil=>
  conv=>whnf
  refine dV (cj ai rfl (Nat.le_refl _) rfl) fun h1 e1=>?_;conv=>whnf
  refine eE (s9 rfl (cN (vs:=(op Fj).cells) (by rw[e1];exact aC) (Nat.le_refl _)) rfl) ?_;conv=>whnf
  exact hQ _ (by rw[e1];exact((Fr.refl h []).new (x:=_)).qS (Nat.le_refl _))
 |cons x l=>
  conv=>whnf
  refine⟨_,r1.Lx,?_⟩;conv=>whnf
  refine⟨_,r1.row.idx,?_⟩;conv=>whnf
  refine⟨_,r1.row.xA,?_⟩;conv=>whnf
  refine dV (cj ai rfl (Nat.le_refl _) rfl) fun h1 e1=>?_;conv=>whnf
  refine eE (s9 rfl (cN (vs:=(op x).cells) (by rw[e1];exact aC) (Nat.le_refl _)) rfl) ?_;conv=>whnf
  exact hQ _ (by rw[e1];exact((Fr.refl h []).new (x:=_)).qS (Nat.le_refl _))
end
theorem qU.lt{h:Heap}{C o:Nat}{v:AV}{x:Op}{l:List Op}(r:qU h C o v (x::l)):C<h.next:=by
 obtain⟨p,cs,rfl,h1,_⟩:=r;exact h1
theorem Rw.stA{h:Heap}{b C o:Nat}{tl:List AV}{v:AV}{x:Op}{l:List Op}(r:Rw h b C o tl v (x::l))(y:Op):
  ∃h',eV (.store 3) [.ptr C o,op y] h=some (.undef,h')∧Rw h' b C o tl v (y::l)∧Fr h h' [C]:=by
 obtain⟨p,cs,rfl,h1,h2,h3⟩:=r.row;have hl:cs.length=o+(3+(aa (ops l)).length):=by
  have:=congrArg List.length h3;rw[List.length_drop,eS] at this;simp only[List.length_cons] at this;omega
 have hc:cs=cs.take o++(.int .i64 x.k::.int .i64 x.n::.str x.s::aa (ops l)):=by rw[←eS,←h3,List.take_append_drop]
 have ho:(cs.take o).length=o:=by rw[List.length_take];omega
 have hsp:Heap.splice cs o (op y).cells=cs.take o++aa (ops (y::l)):=by
  have:=r9 (cs.take o) (.int .i64 x.k::.int .i64 x.n::.str x.s::aa (ops l)) (op y).cells (by simp[op,AV.cells]);rw[ho,←hc] at this;rw[this,List.append_assoc];rfl
 have hst:=cj (o:=o) (n:=3) (v:=op y) h2 rfl (by omega) rfl;rw[hsp] at hst;have fr:Fr h (h.set C (.cells (cs.take o++aa (ops (y::l))) true 3)) [C]:=(Fr.refl _ _).set (by simp);refine⟨_,hst,⟨r.lt,fun _=>r.ne (by simp),(fr.keep b r.lt (by simpa using r.ne (by simp))).trans r.st,p,_,rfl,h1,aC,?_⟩,fr⟩;rw[List.drop_append_of_le_length (by omega),List.drop_eq_nil_of_le (by omega)];rfl
section
variable {h:Heap} {b C o:Nat} {v:AV} {l:List Op} {Q:AV→Heap→Prop}
end
theorem yF:∀l:List Op,bz (aa (ops l))=true
 |[]=>rfl
 |x::l=>by
  rw[eS];simp only[Gr,yF l];rfl
def sS(l:List Op):Int:=if l.length>32 then 5 else if l.any (fun o=>!Am o) then 2 else 0
theorem aaR{e:Env}{h:Heap}{a b:Nat}{v w:AV}(ha:Tr.get e a=some v)(hb:Tr.get e b=some w):eH e h [.tmp a,.tmp b]=some [v,w]:=by
 simp only[eH,oD,ha,hb]
theorem Za{v:AV}(fl:v.cells=[v]):pV (.build [.aH,.bool false] [(0,1),(1,1)]) [v,.bool true]=some (.agg [v,.bool true]):=by
 show(fill [.aH,.bool false] [(0,1),(1,1)] [v,.bool true]).map AV.agg=_;simp only[fill];rw[fl];rfl
section
variable {h:Heap} {Q:AV→Heap→Prop} {k:Nat} {l:List Op}
theorem Iz(hk:k=3→l=[])(hl:l.length≤32)(hQ:∀h' C v,qU h' C 0 v l→h.next≤C→(l≠[]→C<h'.next)→Fr h h' []→Q v h'):VD fs ms 171 [.fz k (ops l)] h Q:=by
 refine ak (af:=Mt) true rfl (Nat.le_of_ble_eq_true rfl) ?_;conv=>whnf
 cases hb:Nat.beq k 3 with
 |true=>
  have:=hk (Nat.eq_of_beq_eq_true hb);subst this;conv=>whnf
  exact hQ h h.next .aH (.inl rfl) (Nat.le_refl _) (by simp) (Fr.refl _ _)
 |false=>
  conv=>whnf
  cases l with
  |nil=>
   refine dV (AW (s:=3) (bytes:=32) (b:=h.next) (nx:=h.next+1) (xh (k:=k) (w9 [])) rfl) fun h1 e1=>?_;conv=>whnf
   exact hQ _ h.next _ (.inr (.inr (.inr ⟨_,_,_,rfl⟩))) (Nat.le_refl _) (by simp) (by rw[e1];exact(Fr.refl h []).new)
  |cons x l=>
   refine dV (Ek (s:=3) (bytes:=32) (n:=l.length) (b:=h.next) (nx:=h.next+1) (cs:=aa (ops (x::l))) ai (by omega) (by simp at hl;omega) ((xh (k:=k) (w9 (x::l))).trans (by rw[og];rfl)) (yF _)) fun h1 e1=>?_;conv=>whnf
   refine hQ h1 (h.next+1) _ ⟨true,_,rfl,by rw[e1];exact Nat.lt_succ_self _,by rw[e1];exact ai (h:=h.new _),by rw[List.drop_zero]⟩ (by omega) (fun _=>by rw[e1];exact Nat.lt_succ_self _) (by rw[e1];exact(Fr.refl h []).new.new)
theorem Ib(hk:k=3→l=[])(hl:l.length<2^62)(h0:sS l≠0→∀h',Fr h h' []→Q (.cD [.bq,.int .i64 (sS l)]) h')
  (h1:sS l=0→∀h' b C v,Rw h' b C 0 [.bool true] v l→h.next≤b→h.next≤C→(l≠[]→C<h'.next)→Fr h h' []→Q (.cD [.ptr b 0,.int .i64 0]) h'):VD fs ms 141 [.fz k (ops l)] h Q:=by
 refine ak (af:=LY) true rfl (Nat.le_of_ble_eq_true rfl) ?_;conv=>whnf
 rw[og];refine br (fun hc=>?_) (fun hc=>?_)<;>(try rw[hc])<;>(conv=>whnf)
 ·have e:sS l=5:=by rw[sS,if_pos (by have:=of_decide_eq_true hc;omega)]
  rw[e] at h0;exact h0 (by decide) _ (Fr.refl _ _)
 ·have hn:¬l.length>32:=by have:=of_decide_eq_false hc;omega
  refine aO (Ky k l hl) ?_;conv=>whnf
  refine br (fun hc=>?_) (fun hc=>?_)<;>(try rw[hc])<;>(conv=>whnf)
  ·have e:sS l=2:=by rw[sS,if_neg hn,if_pos hc]
   rw[e] at h0;exact h0 (by decide) _ (Fr.refl _ _)
  ·have e:sS l=0:=by rw[sS,if_neg hn,if_neg (by rw[hc];simp)]
   refine Iz hk (by omega) fun h2 C v r hC Uf fr=>?_;conv=>whnf
   have fl:=r.flat;refine Fk (Za fl.1) ?_;conv=>whnf
   refine h1 e _ h2.next C v ⟨Nat.lt_succ_self _,fun hne=>by have:=Uf hne;omega,?_,r.keep ((Fr.refl h2 []).new (x:=_)) (by simp)⟩ fr.next hC (fun hne=>Nat.lt_succ_of_lt (Uf hne)) (fr.trans ((Fr.refl h2 []).new (x:=_)));exact ai
end
structure Jb where
 t:Tk
 l:List Op
 e:Int
 n:Int
 s:Int
 k:Int
 c:Int
 g:Bool
def JY(j:Jb):Jb:={j with l:=zT j.l,g:=j.g||!Av j.l}
def EY(j:Jb):Int:=if Av j.l then 250 else 0
def q8(j:Jb):Int:=if j.s==3 then 250 else if uY j.l then 0 else 250
def mc(j:Jb):Jb:=if q8 j==0 then{j with l:=s6 j.l,g:=true,n:=IntKind.i64.wrap (j.n+1),k:=if j.s !=0 then IntKind.i64.wrap (j.k+1) else j.k} else j
def oP(j:Jb)(s:Int):Int:=if decide (s<1)||decide (s>3) then 2 else if j.s==3&&s==2 then 0 else if j.s !=0 then 130 else if s !=1&&decide (j.c≥j.t.f) then 170 else 0
def BT(j:Jb)(s:Int):Jb:=if oP j s==0 then(if j.s==3&&s==2 then{j with s:=s} else{j with s:=s,k:=0,c:=if s !=1 then IntKind.i64.wrap (j.c+1) else j.c}) else j
def EZ(j:Jb):Int:=if j.s==0 then 132 else 0
def xT(j:Jb):Jb:=if j.s==0 then j else{j with s:=0,k:=0}
def JZ(j:Jb):Bool:=if j.s==2 then decide (j.k≥j.t.e) else if j.s==1 then decide (j.k≥j.t.b)&&uY j.l else false
def Du(j:Jb)(now:Int):Int:=if j.l.isEmpty then 0 else if decide (now≥j.e) then 3 else if decide (j.n≥j.t.w)&&decide (uJ j.l>0) then 1 else if JZ j then 2 else 0
def jB(p:Nat)(j:Jb):ck:=.cells (.ptr p 0::((tk j.t).cells++[.int .i64 j.e,.int .i64 j.n,.int .i64 j.s,.int .i64 j.k,.int .i64 j.c,.bool j.g])) true 0
structure JP(h:Heap)(b p C o:Nat)(v:AV)(j:Jb):Prop where
 lt:b<h.next
 st:h.get b=some (jB p j)
 rw:Rw h p C o [.bool true] v j.l
 n1:b≠p
 n2:b≠C
theorem JP.keep{h h':Heap}{b p C o:Nat}{v:AV}{j:Jb}(J:JP h b p C o v j)(f:Fr h h' []):JP h' b p C o v j:=
 ⟨Nat.lt_of_lt_of_le J.lt f.next,(f.keep b J.lt (by simp)).trans J.st,J.rw.keep f,J.n1,J.n2⟩
theorem JP.put{h:Heap}{b p C o:Nat}{v:AV}{j:Jb}(J:JP h b p C o v j)(j':Jb)(hl:j'.l=j.l):JP (h.set b (jB p j')) b p C o v j'∧Fr h (h.set b (jB p j')) [b]:=by
 have fr:Fr h (h.set b (jB p j')) [b]:=(Fr.refl _ _).set (by simp);have r:=J.rw;rw[←hl] at r;refine⟨⟨J.lt,aC,⟨r.lt,r.ne,(fr.keep p r.lt (by simpa using J.n1.symm)).trans r.st,r.row.keep fr (fun _=>by simpa using J.n2.symm)⟩,J.n1,J.n2⟩,fr⟩
section
variable {h:Heap} {b p C o:Nat} {v:AV} {j:Jb} {Q:AV→Heap→Prop}
theorem mS(J:JP h b p C o v j)(hQ:Q (.bool false) h):VD fs ms 108 [.ptr b 0] h Q:=by
 refine ak (af:=HM) true rfl (Nat.le_of_ble_eq_true rfl) ?_;conv=>whnf
 repeat(first|(refine⟨_,bU J.st rfl,?_⟩;conv=>whnf))
 exact hQ
theorem E4(J:JP h b p C o v j)(hQ:∀h',Fr h h' []→Q (.cD [op (j.l.headD Fj),.bool (!j.l.isEmpty)]) h'):VD fs ms 101 [.ptr b 0] h Q:=by
 refine ak (af:=LD) true rfl (Nat.le_of_ble_eq_true rfl) ?_;conv=>whnf
 have J1:=J.keep ((Fr.refl h []).new (x:=.cells (op Fj).cells true 0));refine mS J1 ?_;conv=>whnf
 repeat(first|(refine⟨_,bU J1.st rfl,?_⟩;conv=>whnf))
 refine MQ J1.rw fun h2 jx=>?_;conv=>whnf
 have g2:h2.get h.next=some (.cells (op Fj).cells true 0):=(jx.keep _ (Nat.lt_succ_self _) (by simp)).trans ai;refine dV (cj g2 rfl (Nat.le_refl _) rfl) fun h1 e1=>?_;conv=>whnf
 refine eE (s9 rfl (cN (vs:=(op (j.l.headD Fj)).cells) (by rw[e1];exact aC) (Nat.le_refl _)) rfl) ?_;conv=>whnf
 exact hQ _ (by rw[e1];exact((((Fr.refl h []).new (x:=_)).trans (jx.wk (by simp))).qS (Nat.le_refl _)))
theorem RO(J:JP h b p C o v j)(hQ:∀h' v' o',JP h' b p C o' v' (JY j)→Fr h h' [b,p]→Q (.int .i64 (EY j)) h'):VD fs ms 80 [.ptr b 0] h Q:=by
 refine ak (af:=WG) true rfl (Nat.le_of_ble_eq_true rfl) ?_;conv=>whnf
 refine mS J ?_;conv=>whnf
 repeat(first|(refine⟨_,bU J.st rfl,?_⟩;conv=>whnf))
 refine P8 J.rw fun h1 v1 o1 r1 iX=>?_;have g1:h1.get b=some (jB p j):=(iX.keep b J.lt (by simpa using J.n1)).trans J.st;have J1:JP h1 b p C o1 v1 {j with l:=zT j.l}:=⟨Nat.lt_of_lt_of_le J.lt iX.next,g1,r1,J.n1,J.n2⟩;obtain⟨J2,jx⟩:=J1.put (JY j) rfl;have fr:=(iX.wk (cs:=[b,p]) (by simp)).trans (jx.wk (by simp));have hk:=hQ _ _ _ J2 fr;conv=>whnf
 repeat(first|(refine⟨_,bU g1 rfl,?_⟩;conv=>whnf))
 cases hg:j.g<;>cases he:Av j.l
 all_goals (
  simp only[EY,JY,hg,he] at hk;conv=>whnf
  refine⟨_,_,cj g1 rfl (Nat.le_of_ble_eq_true rfl) rfl,?_⟩;conv=>whnf
  exact hk)
theorem RU(J:JP h b p C o v j)(hQ:∀h' v' o',JP h' b p C o' v' (mc j)→Fr h h' [b,p,C]→Q (.int .i64 (q8 j)) h'):VD fs ms 81 [.ptr b 0] h Q:=by
 refine ak (af:=WH) true rfl (Nat.le_of_ble_eq_true rfl) ?_;conv=>whnf
 refine mS J ?_;conv=>whnf
 repeat(first|(refine⟨_,bU J.st rfl,?_⟩;conv=>whnf))
 refine br (fun hc=>?_) (fun hc=>?_)<;>(try rw[hc])<;>(conv=>whnf)
 ·have e:q8 j=250:=by rw[q8,if_pos hc]
  have hk:=hQ h v o (by rw[mc,e];exact J) (Fr.refl _ _);rw[e] at hk;exact hk
 have h3:=hc;repeat(first|(refine⟨_,bU J.st rfl,?_⟩;conv=>whnf))
 refine Qa J.rw fun h1 v1 o1 r1 iX=>?_;have g1:h1.get b=some (jB p j):=(iX.keep b J.lt (by simp[J.n1,J.n2])).trans J.st;have J1:JP h1 b p C o1 v1 {j with l:=s6 j.l}:=⟨Nat.lt_of_lt_of_le J.lt iX.next,g1,r1,J.n1,J.n2⟩;have iX:Fr h h1 [b,p,C]:=iX.wk (by simp);have e:q8 j=if uY j.l then 0 else 250:=by rw[q8,if_neg (by rw[h3];simp)]
 cases hr:uY j.l with
 |false=>
  rw[hr] at e;have hl:s6 j.l=j.l:=by
   revert hr;cases j.l with
   |nil=>intro _;rfl
   |cons x r=>intro hr;have hr:(x.k==1)=false:=hr;simp only[s6,hr];rfl
  rw[hl] at J1;have hk:=hQ _ _ _ (show JP h1 b p C o1 v1 (mc j) by rw[mc,e];exact J1) iX;rw[e] at hk;conv=>whnf
  exact hk
 |true=>
  rw[hr] at e;have e2:mc j={j with l:=s6 j.l,g:=true,n:=IntKind.i64.wrap (j.n+1),k:=if j.s !=0 then IntKind.i64.wrap (j.k+1) else j.k}:=by rw[mc,e];rfl
  rw[e,e2] at hQ;conv=>whnf
  obtain⟨J2,jx⟩:=J1.put {j with l:=s6 j.l,g:=true} rfl;refine⟨_,_,cj g1 rfl (Nat.le_of_ble_eq_true rfl) rfl,?_⟩;conv=>whnf
  repeat(first|(refine⟨_,bU J2.st rfl,?_⟩;conv=>whnf))
  obtain⟨J3,jE⟩:=J2.put {j with l:=s6 j.l,g:=true,n:=IntKind.i64.wrap (j.n+1)} rfl;refine⟨_,_,cj J2.st rfl (Nat.le_of_ble_eq_true rfl) rfl,?_⟩;conv=>whnf
  repeat(first|(refine⟨_,bU J3.st rfl,?_⟩;conv=>whnf))
  have fr:Fr h _ [b,p,C]:=iX.trans ((jx.trans jE).wk (by simp));refine br (fun hc=>?_) (fun hc=>?_)<;>(try rw[hc])<;>(conv=>whnf)
  ·rw[if_pos hc] at hQ;repeat(first|(refine⟨_,bU J3.st rfl,?_⟩;conv=>whnf))
   obtain⟨J4,jR⟩:=J3.put {j with l:=s6 j.l,g:=true,n:=IntKind.i64.wrap (j.n+1),k:=IntKind.i64.wrap (j.k+1)} rfl;refine⟨_,_,cj J3.st rfl (Nat.le_of_ble_eq_true rfl) rfl,?_⟩;conv=>whnf
   exact hQ _ _ _ J4 (fr.trans (jR.wk (by simp)))
  ·rw[if_neg (by rw[hc];simp)] at hQ;exact hQ _ _ _ J3 fr
theorem RP{s:Int}(J:JP h b p C o v j)(hQ:∀h',JP h' b p C o v (BT j s)→Fr h h' [b]→Q (.int .i64 (oP j s)) h'):VD fs ms 85 [.ptr b 0,.int .i64 s] h Q:=by
 refine ak (af:=WK) true rfl (Nat.le_of_ble_eq_true rfl) ?_;have hno:∀e,oP j s=e→(e==0)=false→Q (.int .i64 e) h:=by
  intro e he h0;have hk:=hQ h (by rw[BT,he,h0];exact J) (Fr.refl _ _);rw[he] at hk;exact hk
 conv=>whnf
 refine mS J ?_;conv=>whnf
 refine br (fun hc=>?_) (fun hc=>?_)<;>(try rw[hc])<;>(conv=>whnf)
 ·exact hno 2 (by rw[oP,if_pos (by rw[hc];rfl)]) rfl
 have c1:=hc;refine br (fun hc=>?_) (fun hc=>?_)<;>(try rw[hc])<;>(conv=>whnf)
 ·exact hno 2 (by rw[oP,if_pos (by rw[hc];simp)]) rfl
 have c2:=hc;repeat(first|(refine⟨_,bU J.st rfl,?_⟩;conv=>whnf))
 have e0:oP j s=if j.s==3&&s==2 then 0 else if j.s !=0 then 130 else if s !=1&&decide (j.c≥j.t.f) then 170 else 0:=by rw[oP,if_neg (by rw[c1,c2];simp)]
 refine br (fun hc=>?_) (fun hc=>?_)<;>(try rw[hc])<;>(conv=>whnf)
 ·have h3:=hc;rw[hc,Bool.true_and] at e0;repeat(first|(refine⟨_,bU J.st rfl,?_⟩;conv=>whnf))
  refine br (fun hc=>?_) (fun hc=>?_)<;>(try rw[hc])<;>(conv=>whnf)
  ·have e:oP j s=0:=by rw[e0,if_pos hc]
   obtain⟨J2,jx⟩:=J.put {j with s:=s} rfl;have hk:=hQ _ (show JP _ b p C o v (BT j s) by rw[BT,e,h3,hc];exact J2) jx;rw[e] at hk;refine⟨_,_,cj J.st rfl (Nat.le_of_ble_eq_true rfl) rfl,?_⟩;conv=>whnf
   exact hk
  ·have hne:(j.s !=0)=true:=by have:=eq_of_beq h3;rw[this];rfl
   rw[if_neg (by rw[hc];simp),if_pos hne] at e0;repeat(first|(refine⟨_,bU J.st rfl,?_⟩;conv=>whnf))
   refine qO (hne) (fun hc=>?_)
   (try rw[hc])
   conv=>whnf
   exact hno 130 e0 rfl
 ·have h3:=hc;rw[hc,Bool.false_and,if_neg (by simp)] at e0;repeat(first|(refine⟨_,bU J.st rfl,?_⟩;conv=>whnf))
  refine br (fun hc=>?_) (fun hc=>?_)<;>(try rw[hc])<;>(conv=>whnf)
  ·rw[if_pos hc] at e0;exact hno 130 e0 rfl
  rw[if_neg (by rw[hc];simp)] at e0;have fin:oP j s=0→BT j s={j with s:=s,k:=0,c:=if s !=1 then IntKind.i64.wrap (j.c+1) else j.c}:=by
   intro e;simp[BT,e,h3]
  refine br (fun hc=>?_) (fun hc=>?_)<;>(try rw[hc])<;>(conv=>whnf)
  ·have h1:=hc;rw[hc,Bool.true_and] at e0;repeat(first|(refine⟨_,bU J.st rfl,?_⟩;conv=>whnf))
   refine br (fun hc=>?_) (fun hc=>?_)<;>(try rw[hc])<;>(conv=>whnf)
   ·rw[if_pos hc] at e0;exact hno 170 e0 rfl
   rw[if_neg (by rw[hc];simp)] at e0;have fin:=fin e0;rw[h1,if_pos rfl] at fin;rw[e0,fin] at hQ;refine qO (h1) (fun hc=>?_)
   (try rw[hc])
   conv=>whnf
   repeat(first|(refine⟨_,bU J.st rfl,?_⟩;conv=>whnf))
   obtain⟨J2,jx⟩:=J.put {j with c:=IntKind.i64.wrap (j.c+1)} rfl;refine⟨_,_,cj J.st rfl (Nat.le_of_ble_eq_true rfl) rfl,?_⟩;conv=>whnf
   obtain⟨J3,jE⟩:=J2.put {j with c:=IntKind.i64.wrap (j.c+1),s:=s} rfl;refine⟨_,_,cj J2.st rfl (Nat.le_of_ble_eq_true rfl) rfl,?_⟩;conv=>whnf
   obtain⟨J4,jR⟩:=J3.put {j with c:=IntKind.i64.wrap (j.c+1),s:=s,k:=0} rfl;refine⟨_,_,cj J3.st rfl (Nat.le_of_ble_eq_true rfl) rfl,?_⟩;conv=>whnf
   exact hQ _ J4 ((jx.trans jE).trans jR)
  ·have h1:=hc;rw[hc,Bool.false_and,if_neg (by simp)] at e0;have fin:=fin e0;rw[h1,if_neg (by simp)] at fin;rw[e0,fin] at hQ;refine qm (h1) (fun hc=>?_)
   (try rw[hc])
   conv=>whnf
   obtain⟨J3,jE⟩:=J.put {j with s:=s} rfl;refine⟨_,_,cj J.st rfl (Nat.le_of_ble_eq_true rfl) rfl,?_⟩;conv=>whnf
   obtain⟨J4,jR⟩:=J3.put {j with s:=s,k:=0} rfl;refine⟨_,_,cj J3.st rfl (Nat.le_of_ble_eq_true rfl) rfl,?_⟩;conv=>whnf
   exact hQ _ J4 (jE.trans jR)
theorem RQ(J:JP h b p C o v j)(hQ:∀h',JP h' b p C o v (xT j)→Fr h h' [b]→Q (.int .i64 (EZ j)) h'):VD fs ms 88 [.ptr b 0] h Q:=by
 refine ak (af:=WN) true rfl (Nat.le_of_ble_eq_true rfl) ?_;conv=>whnf
 refine mS J ?_;conv=>whnf
 repeat(first|(refine⟨_,bU J.st rfl,?_⟩;conv=>whnf))
 refine br (fun hc=>?_) (fun hc=>?_)<;>(try rw[hc])<;>(conv=>whnf)
 ·rw[xT,EZ,if_pos hc,if_pos hc] at hQ;exact hQ _ J (Fr.refl _ _)
 ·rw[xT,EZ,if_neg (by rw[hc];simp),if_neg (by rw[hc];simp)] at hQ;obtain⟨J3,jE⟩:=J.put {j with s:=0} rfl;refine⟨_,_,cj J.st rfl (Nat.le_of_ble_eq_true rfl) rfl,?_⟩;conv=>whnf
  obtain⟨J4,jR⟩:=J3.put {j with s:=0,k:=0} rfl;refine⟨_,_,cj J3.st rfl (Nat.le_of_ble_eq_true rfl) rfl,?_⟩;conv=>whnf
  exact hQ _ J4 (jE.trans jR)
theorem E0(J:JP h b p C o v j)(hQ:Q (.int .i64 j.e) h):VD fs ms 47 [.ptr b 0] h Q:=by
 refine ak (af:=Wv) true rfl (Nat.le_of_ble_eq_true rfl) ?_;conv=>whnf
 refine mS J ?_;conv=>whnf
 repeat(first|(refine⟨_,bU J.st rfl,?_⟩;conv=>whnf))
 exact hQ
theorem Vi(J:JP h b p C o v j)(hQ:Q (.cD [.int .i64 j.s,.int .i64 j.k]) h):VD fs ms 134 [.ptr b 0] h Q:=by
 refine ak (af:=HN) true rfl (Nat.le_of_ble_eq_true rfl) ?_;conv=>whnf
 refine mS J ?_;conv=>whnf
 repeat(first|(refine⟨_,bU J.st rfl,?_⟩;conv=>whnf))
 exact hQ
theorem RN(J:JP h b p C o v j)(hQ:Q (.bool j.g) h):VD fs ms 51 [.ptr b 0] h Q:=by
 refine ak (af:=Wz) true rfl (Nat.le_of_ble_eq_true rfl) ?_;conv=>whnf
 refine mS J ?_;conv=>whnf
 repeat(first|(refine⟨_,bU J.st rfl,?_⟩;conv=>whnf))
 exact hQ
theorem E6{x:Op}(J:JP h b p C o v j)(hx:(x.k==1)=uY j.l)(hQ:∀h',Fr h h' []→Q (.bool (JZ j)) h'):VD fs ms 146 [.ptr b 0,op x] h Q:=by
 refine ak (af:=Md) true rfl (Nat.le_of_ble_eq_true rfl) ?_;conv=>whnf
 have J1:=J.keep ((Fr.refl h []).new (x:=.cells (op x).cells true 0));have fr:Fr h (h.new (.cells (op x).cells true 0)) []:=(Fr.refl h []).new;repeat(first|(refine⟨_,bU J1.st rfl,?_⟩;conv=>whnf))
 rw[JZ] at hQ;refine br (fun hc=>?_) (fun hc=>?_)<;>(try rw[hc])<;>(conv=>whnf)
 ·rw[if_pos hc] at hQ;repeat(first|(refine⟨_,bU J1.st rfl,?_⟩;conv=>whnf))
  exact hQ _ fr
 ·rw[if_neg (by rw[hc];simp)] at hQ;refine br (fun hc=>?_) (fun hc=>?_)<;>(try rw[hc])<;>(conv=>whnf)
  ·rw[if_pos hc] at hQ;repeat(first|(refine⟨_,bU J1.st rfl,?_⟩;conv=>whnf))
   refine br (fun hc=>?_) (fun hc=>?_)<;>(try rw[hc])<;>(conv=>whnf)
   ·rw[hc,Bool.true_and,←hx] at hQ;refine⟨_,bU ai rfl,?_⟩;conv=>whnf
    exact hQ _ fr
   ·rw[hc,Bool.false_and] at hQ;exact hQ _ fr
  ·rw[if_neg (by rw[hc];simp)] at hQ;exact hQ _ fr
end
section
variable {h:Heap} {b p C o:Nat} {v:AV} {j:Jb} {Q:AV→Heap→Prop}
theorem J6{now:Int}(J:JP h b p C o v j)(hl:j.l.length≤64)(hQ:∀h',Fr h h' []→Q (.int .i64 (Du j now)) h'):VD fs ms 99 [.ptr b 0,.int .i64 now] h Q:=by
 refine ak (af:=WV) true rfl (Nat.le_of_ble_eq_true rfl) ?_;conv=>whnf
 refine E4 J fun h1 iX=>?_;rw[Du] at hQ;cases hj:j.l with
 |nil=>
  conv=>whnf
  refine dV (cj ai rfl (Nat.le_refl _) rfl) fun h2 e2=>?_;conv=>whnf
  rw[hj] at hQ;exact hQ _ (by rw[e2];exact((iX.new (x:=_)).qS iX.next))
 |cons x l=>
  conv=>whnf
  refine dV (cj ai rfl (Nat.le_refl _) rfl) fun h2 e2=>?_;have g2:h2.get h1.next=some (.cells (op x).cells true 0):=by rw[e2];exact aC
  have jx:Fr h h2 []:=by rw[e2];exact((iX.new (x:=_)).qS iX.next)
  have n2:h1.next<h2.next:=by rw[e2];exact Nat.lt_succ_self _
  clear e2;have J2:=J.keep jx;rw[if_neg (by rw[hj];simp)] at hQ;conv=>whnf
  repeat(first|(refine⟨_,bU J2.st rfl,?_⟩;conv=>whnf))
  refine br (fun hc=>?_) (fun hc=>?_)<;>(try rw[hc])<;>(conv=>whnf)
  ·rw[if_pos hc] at hQ;exact hQ _ jx
  rw[if_neg (by rw[hc];simp)] at hQ;repeat(first|(refine⟨_,bU J2.st rfl,?_⟩;conv=>whnf))
  refine br (fun hc=>?_) (fun hc=>?_)<;>(try rw[hc])<;>(conv=>whnf)
  ·rw[hc,Bool.true_and] at hQ;repeat(first|(refine⟨_,bU J2.st rfl,?_⟩;conv=>whnf))
   refine MO J2.rw hl fun h3 jE=>?_;conv=>whnf
   refine br (fun hc=>?_) (fun hc=>?_)<;>(try rw[hc])<;>(conv=>whnf)
   ·rw[if_pos hc] at hQ;exact hQ _ (jx.trans jE)
   ·rw[if_neg (by rw[hc];simp)] at hQ;refine⟨_,Ads.xA (n:=3) ((jE.keep _ n2 (by simp)).trans g2) (Nat.le_refl _),?_⟩;conv=>whnf
    refine E6 (x:=x) (J2.keep jE) (by rw[hj];rfl) fun h4 jR=>?_;conv=>whnf
    refine br (fun hc=>?_) (fun hc=>?_)<;>(try rw[hc])<;>(conv=>whnf)
    ·rw[if_pos hc] at hQ;exact hQ _ ((jx.trans jE).trans jR)
    ·rw[if_neg (by rw[hc];simp)] at hQ;exact hQ _ ((jx.trans jE).trans jR)
  ·rw[hc,Bool.false_and,if_neg (by simp)] at hQ;refine⟨_,Ads.xA (n:=3) g2 (Nat.le_refl _),?_⟩;conv=>whnf
   refine E6 (x:=x) J2 (by rw[hj];rfl) fun h4 jR=>?_;conv=>whnf
   refine br (fun hc=>?_) (fun hc=>?_)<;>(try rw[hc])<;>(conv=>whnf)
   ·rw[if_pos hc] at hQ;exact hQ _ (jx.trans jR)
   ·rw[if_neg (by rw[hc];simp)] at hQ;exact hQ _ (jx.trans jR)
end
def XC(p:Nat)(j:Jb):ck:=.cells ((tk j.t).cells++[.ptr p 0,.int .i64 j.e,.int .i64 j.n,.int .i64 j.s,.int .i64 j.k,.int .i64 j.c,.bool j.g]) true 0
structure JR(h:Heap)(b p C o:Nat)(v:AV)(j:Jb):Prop where
 lt:b<h.next
 st:h.get b=some (XC p j)
 rw:Rw h p C o [] v j.l
 n1:b≠p
 n2:b≠C
theorem JR.keep{h h':Heap}{b p C o:Nat}{v:AV}{j:Jb}(J:JR h b p C o v j)(f:Fr h h' []):JR h' b p C o v j:=
 ⟨Nat.lt_of_lt_of_le J.lt f.next,(f.keep b J.lt (by simp)).trans J.st,J.rw.keep f,J.n1,J.n2⟩
theorem JR.put{h:Heap}{b p C o:Nat}{v:AV}{j:Jb}(J:JR h b p C o v j)(j':Jb)(hl:j'.l=j.l):JR (h.set b (XC p j')) b p C o v j'∧Fr h (h.set b (XC p j')) [b]:=by
 have fr:Fr h (h.set b (XC p j')) [b]:=(Fr.refl _ _).set (by simp);have r:=J.rw;rw[←hl] at r;exact⟨⟨J.lt,aC,⟨r.lt,r.ne,(fr.keep p r.lt (by simpa using J.n1.symm)).trans r.st,r.row.keep fr (fun _=>by simpa using J.n2.symm)⟩,J.n1,J.n2⟩,fr⟩
section
variable {h:Heap} {b p C o:Nat} {v:AV} {j:Jb} {Q:AV→Heap→Prop}
end
section
variable {h:Heap} {b p C o:Nat} {v:AV} {j:Jb} {Q:AV→Heap→Prop}
end
theorem Rw.any{h:Heap}{b C C' o:Nat}{tl:List AV}{v:AV}{l:List Op}(r:Rw h b C o tl v l)(hc:l≠[]→C'=C):Rw h b C' o tl v l:=by
 cases l with
 |nil=>exact⟨r.lt,fun h=>(h rfl).elim,r.st,r.row⟩
 |cons x l=>rw[hc (by simp)];exact r
def fq(t:Tk)(l:List Op)(a:Int):Int:=if !cA [t]||decide (a<0) then 2 else if decide (a>1099511627776) then 10 else sS l
def mH(t:Tk)(l:List Op)(a:Int):Jb:=⟨t,l,IntKind.i64.wrap (a+t.d),0,0,0,0,false⟩
section
variable {h:Heap} {Q:AV→Heap→Prop} {t:Tk} {l:List Op} {a:Int} {k:Nat}
theorem ID(t:Tk):cT [t] [0]=if cA [t] then 0 else 2:=by
 have:lz 0=false:=by decide
 cases c:cA [t]<;>simp[cT,c,this]
theorem RR(hk:k=3→l=[])(hl:l.length<2^62)(h0:fq t l a≠0→∀h',Fr h h' []→Q (.cD [.bq,.int .i64 (fq t l a)]) h')
  (h1:fq t l a=0→∀h' b p C v,JP h' b p C 0 v (mH t l a)→h.next≤b→h.next≤p→h.next≤C→(l≠[]→C<h'.next)→Fr h h' []→Q (.cD [.ptr b 0,.int .i64 0]) h'):VD fs ms 95 [tk t,.fz k (ops l),.int .i64 a] h Q:=by
 refine ak (af:=TD) true rfl (Nat.le_of_ble_eq_true rfl) ?_;conv=>whnf
 refine⟨_,Ads.xA (n:=8) ai (Nat.le_refl _),?_⟩;conv=>whnf
 let H2:=(h.new (.cells (tk t).cells true 0)).new (.cells (tk t).cells true 0)
 let H3:=H2.new (.cells [.int .i64 0] true 0)
 have tV:Fr h H3 []:=(((Fr.refl h []).new (x:=_)).new (x:=_)).new (x:=_);have n1:h.next<H2.next:=Nat.lt_succ_of_lt (Nat.lt_succ_self _);have n0:h.next<H3.next:=Nat.lt_succ_of_lt n1;have g0:H3.get h.next=some (.cells (tk t).cells true 0):=by
  rw[ay n1,ay (Nat.lt_succ_self _)];exact ai
 have g1:H3.get (h.next+1)=some (.cells (tk t).cells true 0):=by
  rw[ay (Nat.lt_succ_self _)];exact ai
 refine jM (vc 2 2 [t] [0] (by simp) (by simp)) rfl (.cons (.row (s:=8) trivial g1 rfl rfl rfl (Nat.le_refl _) (by omega) (fun _=>rfl) (fun _=>rfl) (bW _)) (.cons (.row (s:=1) trivial (ai (h:=H2)) rfl rfl rfl (Nat.le_refl _) (by omega) (fun _=>rfl) (fun _=>rfl) (bS _)) .nil)) ?_;rw[ID];have e1:fq t l a=if !cA [t]||decide (a<0) then 2 else if decide (a>1099511627776) then 10 else sS l:=rfl
 cases c1:cA [t] with
 |false=>
  rw[c1] at e1;rw[e1] at h0;conv=>whnf
  exact h0 (by simp) _ tV
 |true=>
 rw[c1] at e1;conv=>whnf
 refine br (fun hc=>?_) (fun hc=>?_)<;>(try rw[hc])<;>(conv=>whnf)
 ·rw[hc] at e1;rw[e1] at h0;exact h0 (by simp) _ tV
 rw[hc,Bool.not_true,Bool.false_or,if_neg (by simp)] at e1;refine br (fun hc=>?_) (fun hc=>?_)<;>(try rw[hc])<;>(conv=>whnf)
 ·rw[if_pos hc] at e1;rw[e1] at h0;exact h0 (by simp) _ tV
 rw[if_neg (by rw[hc];simp)] at e1;rw[e1] at h0 h1;refine Ib hk hl (fun hn h2 fr=>?_) (fun hz h2 p C v r hp hC hlt fr=>?_)
 ·conv=>whnf
  refine qO ((by simpa using hn)) (fun hc=>?_)
  (try rw[hc])
  conv=>whnf
  exact h0 hn _ (tV.trans fr)
 ·conv=>whnf
  refine⟨_,Ads.xA (n:=8) ((fr.keep _ n0 (by simp)).trans g0) (Nat.le_refl _),?_⟩;conv=>whnf
  refine⟨_,bU ((fr.keep _ n0 (by simp)).trans g0) rfl,?_⟩;conv=>whnf
  have jE:Fr h (h2.new (jB p (mH t l a))) []:=(tV.trans fr).new;have r3:Rw (h2.new (jB p (mH t l a))) p (if l=[] then h2.next+1 else C) 0 [.bool true] v l:=(r.keep ((Fr.refl _ []).new)).any (fun hn=>if_neg hn);refine h1 hz _ h2.next p _ v ⟨Nat.lt_succ_self _,ai,r3,?_,?_⟩ ?_ ?_ ?_ ?_ jE
  ·have:=r.lt;omega
  ·by_cases hn:l=[]
   ·rw[if_pos hn];omega
   ·rw[if_neg hn];have:=hlt hn;omega
  ·exact(tV.trans fr).next
  ·exact Nat.le_trans tV.next hp
  ·have:=(tV.trans fr).next
   have:=Nat.le_trans tV.next hC;by_cases hn:l=[]
   ·rw[if_pos hn];omega
   ·rw[if_neg hn];omega
  ·intro hn;rw[if_neg hn];exact Nat.lt_succ_of_lt (hlt hn)
end
end Ir
end Go.Proofs.YtnlcabhfkpafmaaGreat
