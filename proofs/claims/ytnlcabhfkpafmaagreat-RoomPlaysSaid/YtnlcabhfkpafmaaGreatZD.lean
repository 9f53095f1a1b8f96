/-
  Room: a task's level, what it uses, a resource's ceiling: the program's answer and the document's. Room: what a task uses, a resource's ceiling: the program's answer and the document's. Room: a resource's ceiling: the program's answer and the document's. Room: whether an operation may be: the program's answer and the document's. Room: whether an operation may be: the program's answer. Room: rows of operations, whether a row may be; the time a guard is given. Room: the guards of sporadic tasks: the program's and the document's. Room: rows of operations that are consumed from their fronts. Room: rows of operations: what is left, what is next; the document's. Room: rows of operations: what is next; the document's rows. Room: rows of operations: the document's Ran and Left; new rows. Room: new rows of operations. Room: the program's jobs. Room: what a job does wrong; new jobs of the program. Room: the document's jobs. Room: the document's jobs enter and err.
-/
import Derived.Test.YtnlcabhfkpafmaaGreatZB
import Derived.Test.YtnlcabhfkpafmaaGreatZA
set_option maxRecDepth 100000
set_option linter.unusedSimpArgs false
set_option linter.unusedVariables false
namespace Go.Proofs.YtnlcabhfkpafmaaGreat
open Go Ads
namespace Ir
def Zy(l:List Tk)(i:Int):Bool:=decide (0≤i∧i<(l.length:Nat))
def ZZ(l:List Tk)(i:Int):Int:=match l[i.toNat]? with|some t=>t.d|none=>0
def above(l:List Tk)(d:Int):Nat:=l.countP (fun m=>decide (m.d>d))
def lvl(l:List Tk)(i:Int):Int:=if Zy l i=true then((1+above l (ZZ l i):Nat):Int) else 0
theorem uY{l:List Tk}(k:Nat){i:Int}(h0:0≤i)(h1:i<(l.length:Nat)):∃t:Tk,pV (.az 8) [.fz k (eP l),.int .i64 i]=some (.fp (tk t).cells 0)∧l[i.toNat]?=some t:=by
 have hj:i.toNat<l.length:=by omega
 refine⟨l[i.toNat],?_,List.getElem?_eq_getElem hj⟩;have:=kD (k:=k) hj
 rwa [show((i.toNat:Nat):Int)=i by omega] at this
theorem vq(l:List Tk)(d:Int):above l d≤l.length:=List.countP_le_length
theorem vr{l:List Tk}{j:Nat}(hj:j<l.length)(d:Int):above (l.take (j+1)) d=above (l.take j) d+(if l[j].d>d then 1 else 0):=by
 rw[above,nu hj,List.countP_append,List.countP_cons];simp[above]
theorem va{l:List Tk}{i:Int}(h:¬(0≤i∧i<(l.length:Nat))):lvl l i=0:=by
 simp only[lvl,Zy,h,decide_false,Bool.false_eq_true,if_false]
theorem wu{l:List Tk}{i:Int}(h:0≤i∧i<(l.length:Nat)){t:Tk}(ht:l[i.toNat]?=some t):lvl l i=((1+above l t.d:Nat):Int):=by
 simp only[lvl,Zy,h,and_self,decide_true,if_true,ZZ,ht]
theorem xT{l:List Tk}{j:Nat}(hj:j<l.length)(hl:l.length<2^62){d:Int}(h:l[j].d>d):some (AV.int .i64 (IntKind.i64.wrap (((1+above (l.take j) d:Nat):Int)+1)))=some (AV.int .i64 ((1+above (l.take (j+1)) d:Nat):Int)):=by
 have h1:=vq (l.take j) d;have h2:(l.take j).length=j:=by rw[List.length_take];omega
 rw[nP (by omega),vr hj,if_pos h,←Nat.add_assoc]
theorem vt{l:List Tk}{j:Nat}(hj:j<l.length){d:Int}(h:¬l[j].d>d):some (AV.int .i64 ((1+above (l.take j) d:Nat):Int))=some (AV.int .i64 ((1+above (l.take (j+1)) d:Nat):Int)):=by
 rw[vr hj,if_neg h,Nat.add_zero]
theorem BY(k:Nat)(l:List Tk)(hl:l.length<2^62)(i:Int):PC fs ms 61 [.fz k (eP l),.int .i64 i] (.int .i64 (lvl l i)):=by
 refine cr (by simp[cD,AV.cl,bF]) rfl ?_;refine ak (af:=VJ) false rfl (Nat.le_of_ble_eq_true rfl) ?_;generalize hQ:(fun(v:AV) (_:Heap)=>v=.int .i64 (lvl l i))=Q;conv=>whnf
 iterate 3 (all_goals (first|(refine br (fun hc=>?_) (fun hc=>?_)<;>(try rw[hc])<;>(conv=>whnf))|skip))
 ·subst hQ;simp at hc;exact congrArg (AV.int .i64) (va (by omega)).symm
 ·subst hQ;simp[bt] at hc;exact congrArg (AV.int .i64) (va (by omega)).symm
 ·have h0:0≤i:=by simp at*;omega
  have h1:i<(l.length:Nat):=by simp[bt] at hc;omega
  obtain⟨t,t1,t2⟩:=uY k h0 h1;refine gX 5 [(0,.fz k (eP l)),(1,.int .i64 i),(5,.int .i64 ((1+above (l.take 0) t.d:Nat):Int)),(6,.int .i64 ((0:Nat):Int))] (by repeat' (first|exact trivial|refine cC rfl (by omega) ?_|refine bZ rfl (by omega) ?_|refine bC rfl (by omega) ?_|refine aV rfl (by first|rfl|simp[cD,AV.cl,bS,bF]) ?_|refine aV (aK (by omega)) rfl ?_)) ?_;refine fM 5 l.length (fun j=>True) (fun j=>[(0,.fz k (eP l)),(1,.int .i64 i),(5,.int .i64 ((1+above (l.take j) t.d:Nat):Int)),(6,.int .i64 (j:Nat))]) ?_ ?_ trivial
  ·intro j hj _;have hle:=vq (l.take j) t.d;have Iw:(l.take j).length=j:=by rw[List.length_take];omega
   conv=>whnf
   refine br (fun hc=>?_) (fun hc=>?_)<;>(try rw[hc])<;>(conv=>whnf)
   ·refine⟨_,kD hj,?_⟩;conv=>whnf
    refine⟨_,t1,?_⟩;conv=>whnf
    refine br (fun hc=>?_) (fun hc=>?_)<;>(try rw[hc])<;>(conv=>whnf)
    ·refine⟨trivial,⟨_,rfl,.cl (by simp[AV.cl,bF])⟩,⟨_,rfl,.cl rfl⟩,⟨_,xT hj hl (of_decide_eq_true hc),.cl rfl⟩,⟨_,aK (by omega),.cl rfl⟩,trivial⟩
    ·refine⟨trivial,⟨_,rfl,.cl (by simp[AV.cl,bF])⟩,⟨_,rfl,.cl rfl⟩,⟨_,vt hj (of_decide_eq_false hc),.cl rfl⟩,⟨_,aK (by omega),.cl rfl⟩,trivial⟩
   ·exfalso;have:=of_decide_eq_false hc;rw[bt] at this;omega
  ·intro _;conv=>whnf
   refine br (fun hc=>?_) (fun hc=>?_)<;>(try rw[hc])<;>(conv=>whnf)
   ·exfalso;have:=of_decide_eq_true hc;rw[bt] at this;omega
   ·subst hQ;rw[List.take_length];exact congrArg (AV.int .i64) (wu ⟨h0,h1⟩ t2).symm
theorem Ey(k:Nat)(l:List Tk)(hl:l.length<2^62)(i:Int):PC fs ms 52 [.fz k (eP l),.int .i64 i] (.int .i64 (lvl l i)):=by
 refine cr (by simp[cD,AV.cl,bF]) rfl ?_;refine ak (af:=Vy) false rfl (Nat.le_of_ble_eq_true rfl) ?_;generalize hQ:(fun(v:AV) (_:Heap)=>v=.int .i64 (lvl l i))=Q;conv=>whnf
 iterate 3 (all_goals (first|(refine br (fun hc=>?_) (fun hc=>?_)<;>(try rw[hc])<;>(conv=>whnf))|skip))
 ·subst hQ;simp at hc;exact congrArg (AV.int .i64) (va (by omega)).symm
 ·subst hQ;simp[bt] at hc;exact congrArg (AV.int .i64) (va (by omega)).symm
 ·have h0:0≤i:=by simp at*;omega
  have h1:i<(l.length:Nat):=by simp[bt] at hc;omega
  obtain⟨t,t1,t2⟩:=uY k h0 h1;refine gX 5 [(0,.fz k (eP l)),(1,.int .i64 i),(5,.int .i64 ((1+above (l.take 0) t.d:Nat):Int)),(16,.fz k (eP l)),(17,.int .i64 (eP l).length),(18,.int .i64 ((0:Nat):Int))] (by repeat' (first|exact trivial|refine cC rfl (by omega) ?_|refine bZ rfl (by omega) ?_|refine bC rfl (by omega) ?_|refine aV rfl (by first|rfl|simp[cD,AV.cl,bS,bF]) ?_|refine aV (aK (by omega)) rfl ?_)) ?_;refine fM 5 l.length (fun j=>True) (fun j=>[(0,.fz k (eP l)),(1,.int .i64 i),(5,.int .i64 ((1+above (l.take j) t.d:Nat):Int)),(16,.fz k (eP l)),(17,.int .i64 (eP l).length),(18,.int .i64 (j:Nat))]) ?_ ?_ trivial
  ·intro j hj _;have hle:=vq (l.take j) t.d;have Iw:(l.take j).length=j:=by rw[List.length_take];omega
   conv=>whnf
   refine br (fun hc=>?_) (fun hc=>?_)<;>(try rw[hc])<;>(conv=>whnf)
   ·refine⟨_,kD hj,?_⟩;conv=>whnf
    refine⟨_,t1,?_⟩;conv=>whnf
    refine br (fun hc=>?_) (fun hc=>?_)<;>(try rw[hc])<;>(conv=>whnf)
    ·refine⟨trivial,⟨_,rfl,.cl (by simp[AV.cl,bF])⟩,⟨_,rfl,.cl rfl⟩,⟨_,xT hj hl (of_decide_eq_true hc),.cl rfl⟩,⟨_,rfl,.cl (by simp[AV.cl,bF])⟩,⟨_,rfl,.cl rfl⟩,⟨_,aK (by omega),.cl rfl⟩,trivial⟩
    ·refine⟨trivial,⟨_,rfl,.cl (by simp[AV.cl,bF])⟩,⟨_,rfl,.cl rfl⟩,⟨_,vt hj (of_decide_eq_false hc),.cl rfl⟩,⟨_,rfl,.cl (by simp[AV.cl,bF])⟩,⟨_,rfl,.cl rfl⟩,⟨_,aK (by omega),.cl rfl⟩,trivial⟩
   ·exfalso;have:=of_decide_eq_false hc;rw[bt] at this;omega
  ·intro _;conv=>whnf
   refine br (fun hc=>?_) (fun hc=>?_)<;>(try rw[hc])<;>(conv=>whnf)
   ·exfalso;have:=of_decide_eq_true hc;rw[bt] at this;omega
   ·subst hQ;rw[List.take_length];exact congrArg (AV.int .i64) (wu ⟨h0,h1⟩ t2).symm
theorem P8(a:Int)(r:Nat)(hr:r<8):(BitVec.ofInt 64 a).getLsbD r=decide (a/2^r%2=1):=by
 rw[BitVec.getLsbD,BitVec.toNat_ofInt,Nat.testBit_eq_decide_div_mod_eq];have:r=0∨r=1∨r=2∨r=3∨r=4∨r=5∨r=6∨r=7:=by omega
 rw[decide_eq_decide];rcases this with h|h|h|h|h|h|h|h<;>subst h<;>simp only[Nat.reducePow,Int.reducePow,Nat.pow_zero,Int.pow_zero]<;>omega
theorem DO(a:Int)(r:Nat)(hr:r<8):(BitVec.ofInt 64 a&&&BitVec.twoPow 64 r).toNat=if a/2^r%2=1 then 2^r else 0:=by
 rw[BitVec.and_twoPow,P8 a r hr];by_cases h:a/2^r%2=1
 ·simp only[h,decide_true,if_true,BitVec.toNat_twoPow];refine Nat.mod_eq_of_lt ?_;exact Nat.pow_lt_pow_right (by decide) (by omega)
 ·simp[h]
def Ks(t:Tk)(r:Nat):Bool:=decide (t.a/2^r%2=1)
def uses(l:List Tk)(i r:Int):Bool:=if 0≤i∧i<(l.length:Nat)∧0≤r∧r<8 then(match l[i.toNat]? with|some t=>Ks t r.toNat|none=>false) else false
theorem Cb{l:List Tk}{i r:Int}(h:¬(0≤i∧i<(l.length:Nat)∧0≤r∧r<8)):uses l i r=false:=by
 rw[uses,if_neg h]
theorem E8{l:List Tk}{i r:Int}(h:0≤i∧i<(l.length:Nat)∧0≤r∧r<8){t:Tk}(ht:l[i.toNat]?=some t):uses l i r=Ks t r.toNat:=by
 rw[uses,if_pos h,ht]
theorem eight{r:Nat}(hr:r<8):r=0∨r=1∨r=2∨r=3∨r=4∨r=5∨r=6∨r=7:=by omega
theorem Hy(a:Int){r:Int}(h0:0≤r)(h1:r<8):pV (.bin .shr) [.int .i64 a,.int .i64 r]=some (.int .i64 (a/2^r.toNat)):=by
 obtain⟨n,rfl⟩:∃n:Nat,r=n:=⟨r.toNat,by omega⟩;rcases eight (r:=n) (by omega) with h|h|h|h|h|h|h|h<;>subst h
 all_goals
  show some (AV.int .i64 _)=_;refine congrArg (fun x=>some (AV.int .i64 x)) ?_;exact Int.fdiv_eq_ediv_of_nonneg _ (by decide)
theorem Hx{r:Int}(h0:0≤r)(h1:r<8):pV (.bin .shl) [.int .i64 1,.int .i64 r]=some (.int .i64 (2^r.toNat)):=by
 obtain⟨n,rfl⟩:∃n:Nat,r=n:=⟨r.toNat,by omega⟩;rcases eight (r:=n) (by omega) with h|h|h|h|h|h|h|h<;>subst h<;>rfl
theorem Ym(x:Int):IntKind.i64.wrap ((BitVec.ofInt 64 x&&&BitVec.ofInt 64 1).toNat:Int)=x%2:=by
 have h:=DO x 0 (by decide);rw[show BitVec.ofInt 64 1=BitVec.twoPow 64 0 by decide,h];rcases Int.emod_two_eq x with h1|h1
 ·simp[h1];rfl
 ·simp[h1];rfl
theorem Yn(a:Int){n:Nat}(hn:n<8):(IntKind.i64.wrap ((BitVec.ofInt 64 a&&&BitVec.ofInt 64 (2^n)).toNat:Int)!=0)=decide (a/2^n%2=1):=by
 have h:=DO a n hn;rw[show BitVec.ofInt 64 (2^n)=BitVec.twoPow 64 n by rcases eight hn with h|h|h|h|h|h|h|h<;>subst h<;>decide,h];by_cases h1:a/2^n%2=1
 ·rw[if_pos h1,decide_eq_true h1];rcases eight hn with h|h|h|h|h|h|h|h<;>subst h<;>decide
 ·rw[if_neg h1,decide_eq_false h1];decide
theorem Ca(k:Nat)(l:List Tk)(hl:l.length<2^62)(i r:Int):PC fs ms 154 [.fz k (eP l),.int .i64 i,.int .i64 r] (.bool (uses l i r)):=by
 refine cr (by simp[cD,AV.cl,bF]) rfl ?_;refine ak (af:=LH) false rfl (Nat.le_of_ble_eq_true rfl) ?_;generalize hQ:(fun(v:AV) (_:Heap)=>v=.bool (uses l i r))=Q;conv=>whnf
 iterate 5 (all_goals (first|(refine br (fun hc=>?_) (fun hc=>?_)<;>(try rw[hc])<;>(conv=>whnf))|skip))
 case' refine_2.refine_2.refine_2.refine_2=>
  have h0:0≤i∧i<(l.length:Nat)∧0≤r∧r<8:=by simp[bt] at*;omega
  obtain⟨t,t1,t2⟩:=uY k h0.1 h0.2.1;refine⟨_,t1,?_⟩;conv=>whnf
  refine⟨_,Hy t.a h0.2.2.1 h0.2.2.2,?_⟩;conv=>whnf
  subst hQ;rw[E8 h0 t2];refine congrArg AV.bool ?_;exact(congrArg (· ==(1:Int)) (Ym _)).trans (by rw[Ks,Bool.eq_iff_iff];simp)
 all_goals (subst hQ;refine congrArg AV.bool (Cb ?_).symm;simp[bt] at*;omega)
theorem E6(k:Nat)(l:List Tk)(hl:l.length<2^62)(i r:Int):PC fs ms 137 [.fz k (eP l),.int .i64 i,.int .i64 r] (.bool (uses l i r)):=by
 refine cr (by simp[cD,AV.cl,bF]) rfl ?_;refine ak (af:=Lq) false rfl (Nat.le_of_ble_eq_true rfl) ?_;generalize hQ:(fun(v:AV) (_:Heap)=>v=.bool (uses l i r))=Q;conv=>whnf
 iterate 5 (all_goals (first|(refine br (fun hc=>?_) (fun hc=>?_)<;>(try rw[hc])<;>(conv=>whnf))|skip))
 case' refine_2.refine_2.refine_2.refine_2=>
  have h0:0≤i∧i<(l.length:Nat)∧0≤r∧r<8:=by simp[bt] at*;omega
  obtain⟨t,t1,t2⟩:=uY k h0.1 h0.2.1;refine⟨_,t1,?_⟩;conv=>whnf
  refine⟨_,Hx h0.2.2.1 h0.2.2.2,?_⟩;conv=>whnf
  subst hQ;rw[E8 h0 t2];refine congrArg AV.bool ?_;exact Yn t.a (by omega)
 all_goals (subst hQ;refine congrArg AV.bool (Cb ?_).symm;simp[bt] at*;omega)
def oY(g:Nat→Int):Nat→Int
 |0=>0
 |n+1=>max (oY g n) (g n)
def kM(l:List Tk)(r:Int)(j:Nat):Int:=if uses l j r=true then lvl l j else 0
def ceil(l:List Tk)(r:Int):Int:=oY (kM l r) l.length
theorem Ez(g:Nat→Int):∀n,0≤oY g n
 |0=>Int.le_refl 0
 |n+1=>by have:=Ez g n;simp only[oY];omega
theorem AS{l:List Tk}{r:Int}{j:Nat}(h:uses l j r=true):oY (kM l r) (j+1)=max (oY (kM l r) j) (lvl l j):=by
 simp only[oY,kM,if_pos h]
theorem MJ{l:List Tk}{r:Int}{j:Nat}(h:uses l j r=false):oY (kM l r) (j+1)=oY (kM l r) j:=by
 have:=Ez (kM l r) j;simp only[oY,kM,h,Bool.false_eq_true,if_false];omega
theorem vc{a b c:Int}(h:max a b=c):some (AV.int .i64 (cond (decide (b>a)) b a))=some (AV.int .i64 c):=by
 subst h;refine congrArg (fun x=>some (AV.int .i64 x)) ?_;by_cases h:b>a
 ·rw[decide_eq_true h];show b=_;omega
 ·rw[decide_eq_false h];show a=_;omega
theorem HB(k:Nat)(l:List Tk)(hl:l.length<2^62)(r:Int):PC fs ms 114 [.fz k (eP l),.int .i64 r] (.int .i64 (ceil l r)):=by
 refine cr (by simp[cD,AV.cl,bF]) rfl ?_;refine ak (af:=K3) false rfl (Nat.le_of_ble_eq_true rfl) ?_;generalize hQ:(fun(v:AV) (_:Heap)=>v=.int .i64 (ceil l r))=Q;conv=>whnf
 refine gX 5 [(0,.fz k (eP l)),(1,.int .i64 r),(5,.int .i64 (oY (kM l r) 0)),(6,.int .i64 ((0:Nat):Int))] (by repeat' (first|exact trivial|refine cC rfl (by omega) ?_|refine bZ rfl (by omega) ?_|refine bC rfl (by omega) ?_|refine aV rfl (by first|rfl|simp[cD,AV.cl,bS,bF]) ?_|refine aV (aK (by omega)) rfl ?_)) ?_;refine fM 5 l.length (fun j=>True) (fun j=>[(0,.fz k (eP l)),(1,.int .i64 r),(5,.int .i64 (oY (kM l r) j)),(6,.int .i64 (j:Nat))]) ?_ ?_ trivial
 ·intro j hj _;conv=>whnf
  refine br (fun hc=>?_) (fun hc=>?_)<;>(try rw[hc])<;>(conv=>whnf)
  ·refine aR (Ca k l hl (j:Nat) r) ?_;conv=>whnf
   refine br (fun hc=>?_) (fun hc=>?_)<;>(try rw[hc])<;>(conv=>whnf)
   ·refine aR (BY k l hl (j:Nat)) ?_;conv=>whnf
    refine⟨trivial,⟨_,rfl,.cl (by simp[AV.cl,bF])⟩,⟨_,rfl,.cl rfl⟩,⟨_,vc (AS hc).symm,.cl rfl⟩,⟨_,aK (by omega),.cl rfl⟩,trivial⟩
   ·refine⟨trivial,⟨_,rfl,.cl (by simp[AV.cl,bF])⟩,⟨_,rfl,.cl rfl⟩,⟨_,congrArg (fun x=>some (AV.int .i64 x)) (MJ hc).symm,.cl rfl⟩,⟨_,aK (by omega),.cl rfl⟩,trivial⟩
  ·exfalso;have:=of_decide_eq_false hc;rw[bt] at this;omega
 ·intro _;conv=>whnf
  refine br (fun hc=>?_) (fun hc=>?_)<;>(try rw[hc])<;>(conv=>whnf)
  ·exfalso;have:=of_decide_eq_true hc;rw[bt] at this;omega
  ·subst hQ;rfl
theorem FO{F:Nat}{aM:List AV}{g:Nat→Int}(k:Nat)(l:List Tk)(hl:l.length<2^62)(hcap:cD aM=true)(hp:∀j (hj:j<l.length),PC fs ms F (.int .i64 (j:Nat)::tk l[j]::aM) (.int .i64 (g j))):
  PC fs ms 152 [.fz k (eP l),.func (.func F) [] aM] (.int .i64 (oY g l.length)):=by
 refine cr (by simp[cD,AV.cl,bF,hcap]) rfl ?_;refine ak (af:=LF) false rfl (Nat.le_of_ble_eq_true rfl) ?_;generalize hQ:(fun(v:AV) (_:Heap)=>v=.int .i64 (oY g l.length))=Q;conv=>whnf
 refine gX 5 [(1,.func (.func F) [] aM),(4,.int .i64 (oY g 0)),(7,.fz k (eP l)),(8,.int .i64 (eP l).length),(9,.int .i64 ((0:Nat):Int))] (by repeat' (first|exact trivial|refine cC rfl (by omega) ?_|refine bZ rfl (by omega) ?_|refine bC rfl (by omega) ?_|refine aV rfl (by first|rfl|simp[cD,AV.cl,bS,bF,hcap]) ?_|refine aV (aK (by omega)) rfl ?_)) ?_;refine fM 5 l.length (fun j=>True) (fun j=>[(1,.func (.func F) [] aM),(4,.int .i64 (oY g j)),(7,.fz k (eP l)),(8,.int .i64 (eP l).length),(9,.int .i64 (j:Nat))]) ?_ ?_ trivial
 ·intro j hj _;conv=>whnf
  refine br (fun hc=>?_) (fun hc=>?_)<;>(try rw[hc])<;>(conv=>whnf)
  ·refine⟨_,kD hj,?_⟩;conv=>whnf
   refine aR (hp j hj) ?_;conv=>whnf
   refine⟨trivial,⟨_,rfl,.cl (by simp[AV.cl,cD,hcap])⟩,⟨_,vc rfl,.cl rfl⟩,⟨_,rfl,.cl (by simp[AV.cl,bF])⟩,⟨_,rfl,.cl rfl⟩,⟨_,aK (by omega),.cl rfl⟩,trivial⟩
  ·exfalso;have:=of_decide_eq_false hc;rw[bt] at this;omega
 ·intro _;conv=>whnf
  refine br (fun hc=>?_) (fun hc=>?_)<;>(try rw[hc])<;>(conv=>whnf)
  ·exfalso;have:=of_decide_eq_true hc;rw[bt] at this;omega
  ·subst hQ;rfl
theorem MH(k:Nat)(l:List Tk)(hl:l.length<2^62)(r:Int)(j:Nat)(t:Tk):PC fs ms 153 [.int .i64 (j:Nat),tk t,.fp [.fz k (eP l)] 0,.fp [.int .i64 r] 0] (.int .i64 (kM l r j)):=by
 refine cr (by simp[cD,AV.cl,bF,tk]) rfl ?_;refine ak (af:=LG) false rfl (Nat.le_of_ble_eq_true rfl) ?_;generalize hQ:(fun(v:AV) (_:Heap)=>v=.int .i64 (kM l r j))=Q;conv=>whnf
 refine aR (E6 k l hl (j:Nat) r) ?_;conv=>whnf
 refine br (fun hc=>?_) (fun hc=>?_)<;>(try rw[hc])<;>(conv=>whnf)
 ·subst hQ;refine congrArg (AV.int .i64) ?_;simp at hc;simp only[kM,hc,Bool.false_eq_true,if_false]
 ·refine aR (Ey k l hl (j:Nat)) ?_;conv=>whnf
  subst hQ;refine congrArg (AV.int .i64) ?_;simp at hc;simp only[kM,hc,if_true]
theorem Qb(k:Nat)(l:List Tk)(hl:l.length<2^62)(r:Int):PC fs ms 112 [.fz k (eP l),.int .i64 r] (.int .i64 (ceil l r)):=by
 refine cr (by simp[cD,AV.cl,bF]) rfl ?_;refine bY (af:=K1) rfl (Nat.le_of_ble_eq_true rfl) ?_;generalize hQ:(fun(v:AV) (_:Heap)=>v=.int .i64 (ceil l r))=Q;conv=>whnf
 refine aF false ?_;conv=>whnf
 refine pL [0] (i:=2) (v':=.fp [.fz k (eP l)] 0) rfl (.ptr' (by simp) rfl (.clean (l:=[.fz k (eP l)]) (by simp[cD,AV.cl,bF]))) ?_;refine pL [1] (i:=3) (v':=.fp [.int .i64 r] 0) rfl (.ptr' (by simp) rfl (.clean rfl)) ?_;refine aq (z:=false) ?_;conv=>whnf
 refine aR (FO (g:=kM l r) k l hl (by simp[cD,AV.cl,bF]) (fun j hj=>MH k l hl r j _)) ?_;conv=>whnf
 subst hQ;rfl
structure Op where
 k:Int
 n:Int
 s:List UInt8
def op(o:Op):AV:=.agg [.int .i64 o.k,.int .i64 o.n,.str o.s]
def ops(l:List Op):List AV:=l.map op
def UI(k n:Int):Bool:=
 if k=1∨k=8 then decide (1≤n∧n≤64) else if k=2∨k=7∨k=6 then decide (0≤n∧n≤7) else if k=3∨k=4∨k=5 then decide (n=0) else false
def UJ(k:Int)(s:List UInt8):Bool:=if k=6 then decide (s.length≤16) else decide (s.length=0)
def pe(o:Op):Bool:=UI o.k o.n&&UJ o.k o.s
def ng(o:Op):Int:=if pe o=true then 0 else 2
theorem Fu(o:Op):PC fs ms 179 [op o] (.int .i64 (ng o)):=by
 refine cr rfl rfl ?_;refine ak (af:=Mc) false rfl (Nat.le_of_ble_eq_true rfl) ?_;generalize hQ:(fun(v:AV) (_:Heap)=>v=.int .i64 (ng o))=Q;conv=>whnf
 iterate 12 (all_goals (first|(refine br (fun hc=>?_) (fun hc=>?_)<;>(try rw[hc])<;>(conv=>whnf))|skip))
 all_goals (subst hQ;refine congrArg (AV.int .i64) ?_)
 all_goals simp only[beq_iff_eq,Bool.not_eq_true,beq_eq_false_iff_ne,ne_eq,Bool.not_eq_false',Bool.not_eq_true',decide_eq_true_eq,decide_eq_false_iff_not] at*
 all_goals first|(simp only[ng,pe,UI,UJ, *];simp;done)|(simp_all[ng,pe,UI,UJ];done)|(simp_all[ng,pe,UI,UJ];omega)|skip
theorem dM{α:Type}{x:Option α}{v:α}{f:α→Prop}(hx:x=some v)(hf:f v):@Option.rec α (fun _=>Prop) False f x:=by
 subst hx;exact hf
def GD(k:Int):Int:=if k=1∨k=8 then 1 else 0
def GB(k:Int):Int:=if k=1∨k=8 then 64 else if k=2∨k=6∨k=7 then 7 else 0
def GF(k:Int):Bool:=decide (1≤k∧k≤8)
def OP(k lo hi:Int):AV×AV:=(.int .i64 k,.agg [.int .i64 lo,.int .i64 hi])
def OQ:List (AV×AV):=[OP 1 1 64,OP 8 1 64,OP 2 0 7,OP 6 0 7,OP 7 0 7,OP 3 0 0,OP 4 0 0,OP 5 0 0]
theorem OR{b:Nat}{h:Heap}(k:Int){bs:List Nat}{c:Nat}(hg:h.get b=some (.map OQ bs c)):rV (.lookup true (.agg [.int .i64 0,.int .i64 0])) [.map b,.int .i64 k] h=some (.cq [.agg [.int .i64 (GD k),.int .i64 (GB k)],.bool (GF k)]):=by
 show rI (.lookup true (.agg [.int .i64 0,.int .i64 0])) [.map b,.int .i64 k] h=_;simp only[rI,hg];by_cases hk:1≤k∧k≤8
 ·have:k=1∨k=2∨k=3∨k=4∨k=5∨k=6∨k=7∨k=8:=by omega
  rcases this with h|h|h|h|h|h|h|h<;>subst h<;>rfl
 ·have h1:findKey (.int .i64 k) OQ=some none:=by
   have e:∀c:Int,1≤c→c≤8→fj (.int .i64 k) (.int .i64 c)=some false:=by
    intro c c1 c2;show some (k==c)=some false;refine congrArg some (beq_eq_false_iff_ne.2 ?_);omega
   simp only[OQ,OP,findKey,e _ (show(1:Int)≤1 by decide) (by decide),e 2 (by decide) (by decide),e 3 (by decide) (by decide),e 4 (by decide) (by decide),e 5 (by decide) (by decide),e 6 (by decide) (by decide),e 7 (by decide) (by decide),e 8 (by decide) (by decide)]
  rw[h1];simp only[GD,GB,GF,hk,decide_false];rw[if_neg (by omega),if_neg (by omega),if_neg (by omega)];rfl
def ZO(o:Op):Heap:=hk 1 [(0,.cells (op o).cells true 0)]
def spH(o:Op):Heap:=hk 4 [(0,.cells (op o).cells true 0),(1,.cells [.int .i64 1,.int .i64 64] true 0),(2,.cells [.int .i64 0,.int .i64 7] true 0),(3,.map OQ [0,1,2,3,4,5,6,7] 8)]
theorem ZP(o:Op):VD fs ms 184 [] (ZO o) fun v h=>v=.map 3∧h=spH o:=by
 refine ak (af:=Mg) false rfl (Nat.le_of_ble_eq_true rfl) ?_;generalize hQ:(fun(v:AV) (h:Heap)=>v=.map 3∧h=spH o)=Q;conv=>whnf
 refine⟨_,_,rfl,?_⟩;conv=>whnf
 refine⟨_,_,rfl,?_⟩;conv=>whnf
 refine⟨_,_,rfl,?_⟩;conv=>whnf
 refine⟨_,_,rfl,?_⟩;conv=>whnf
 refine⟨_,_,rfl,?_⟩;conv=>whnf
 refine⟨_,_,rfl,?_⟩;conv=>whnf
 refine⟨_,_,rfl,?_⟩;conv=>whnf
 refine⟨_,_,rfl,?_⟩;conv=>whnf
 subst hQ;exact⟨rfl,rfl⟩
theorem BK(o:Op):pe o=true↔(GF o.k=true∧GD o.k≤o.n∧o.n≤GB o.k∧o.s.length≤if o.k=6 then 16 else 0):=by
 obtain⟨k,n,s⟩:=o;simp only[pe,UI,UJ,GF,GD,GB,Bool.and_eq_true,decide_eq_true_eq];generalize s.length=L;by_cases hk:1≤k∧k≤8
 ·have:k=1∨k=2∨k=3∨k=4∨k=5∨k=6∨k=7∨k=8:=by omega
  rcases this with h|h|h|h|h|h|h|h<;>subst h<;>simp<;>omega
 ·rw[if_neg (by omega),if_neg (by omega),if_neg (by omega)];simp[hk]
theorem HE{o:Op}(h:¬(GF o.k=true∧GD o.k≤o.n∧o.n≤GB o.k∧o.s.length≤if o.k=6 then 16 else 0)):2=ng o:=by
 rw[ng,if_neg (fun e=>h ((BK o).1 e))]
theorem DY{o:Op}(h:GF o.k=true∧GD o.k≤o.n∧o.n≤GB o.k∧o.s.length≤if o.k=6 then 16 else 0):0=ng o:=by
 rw[ng,if_pos ((BK o).2 h)]
theorem Hg(o:Op):PC fs ms 170 [op o] (.int .i64 (ng o)):=by
 refine cr rfl rfl ?_;refine ak (af:=LX) false rfl (Nat.le_of_ble_eq_true rfl) ?_;generalize hQ:(fun(v:AV) (_:Heap)=>v=.int .i64 (ng o))=Q;conv=>whnf
 refine VD.mono (ZP o) ?_;rintro v h ⟨rfl,rfl⟩;conv=>whnf
 refine dM (OR o.k rfl) ?_;conv=>whnf
 refine⟨iO (by(conv=>whnf);repeat' (first|exact trivial|(exact⟨rfl,rfl,.inr ⟨_,_,rfl⟩⟩)|(refine⟨rfl,rfl,.inl ⟨rfl,fun o ho=>?_⟩⟩;cases ho;first|rfl)|(exact⟨rfl,.inr ⟨_,_,rfl⟩⟩)|(refine⟨rfl,.inl ⟨rfl,fun i o hi ho=>?_⟩⟩;cases hi;cases ho;first|rfl)|(refine And.intro (fun eM=>(Bool.false_ne_true eM).elim) ?_<;>conv=>whnf)|(refine And.intro (fun _=>?_) ?_<;>conv=>whnf)|(refine And.intro ?_ ?_<;>conv=>whnf))),?_⟩;conv=>whnf
 iterate 8 (all_goals (first|(refine br (fun hc=>?_) (fun hc=>?_)<;>(try rw[hc])<;>(conv=>whnf))|skip))
 all_goals (subst hQ;refine congrArg (AV.int .i64) ?_)
 all_goals simp only[beq_iff_eq,beq_eq_false_iff_ne,ne_eq,Bool.not_eq_false',Bool.not_eq_true',decide_eq_true_eq,decide_eq_false_iff_not] at*
 all_goals first
  |(refine HE ?_;rintro⟨e1,e2,e3,e4⟩;simp_all;omega)
  |(refine HE ?_;rintro⟨e1,e2,e3,e4⟩;simp_all;done)
  |(refine DY ⟨by assumption,by omega,by omega,?_⟩;simp_all;omega)
  |(refine DY ⟨by assumption,by omega,by omega,?_⟩;simp_all;done)
  |skip
 all_goals trace_state
theorem nF(l:List Op):cD (ops l)=true:=pT (enc:=op) (fun _=>rfl) l
theorem jx(l:List Op):(ops l).length=l.length:=List.length_map ..
theorem wV(l:List Op):aO 3 (ops l)=true:=jd (enc:=op) (fun _=>rfl) l
theorem zT{l:List Op}{j k:Nat}(hj:j<l.length):pV (.az 3) [.fz k (ops l),.int .i64 (j:Nat)]=some (.fp (op l[j]).cells 0):=uX (enc:=op) hj rfl
theorem Nx{F:Nat}{aM:List AV}{p:Op→Bool}(k:Nat)(l:List Op)(hl:l.length<2^62)(hcap:cD aM=true)(hp:∀m,m∈l→PC fs ms F (op m::aM) (.bool (p m))):
  ∃n:Int,PC fs ms 183 [.fz k (ops l),.func (.func F) [] aM] (.int .i64 n)∧decide (n≥0)=l.any p:=by
 by_cases ha:l.any p=true
 ·obtain⟨j,hj,h1,h2⟩:=p8 (l:=l) (p:=fun m=>p m=true) (by simpa using ha);refine⟨(j:Nat),?_,by rw[ha];simp⟩;refine cr (by simp[cD,AV.cl,nF,hcap]) rfl ?_;refine ak (af:=G0) false rfl (Nat.le_of_ble_eq_true rfl) ?_;generalize hQ:(fun(v:AV) (_:Heap)=>v=.int .i64 (j:Nat))=Q;conv=>whnf
  refine gX 5 [(0,.fz k (ops l)),(1,.func (.func F) [] aM),(7,.int .i64 (ops l).length),(8,.int .i64 ((0:Nat):Int))] (by repeat' (first|exact trivial|refine cC rfl (by omega) ?_|refine bZ rfl (by omega) ?_|refine bC rfl (by omega) ?_|refine aV rfl (by first|rfl|simp[cD,AV.cl,bS,nF,hcap]) ?_|refine aV (aK (by omega)) rfl ?_)) ?_;refine fM 5 j (fun _=>True) (fun i=>[(0,.fz k (ops l)),(1,.func (.func F) [] aM),(7,.int .i64 (ops l).length),(8,.int .i64 (i:Nat))]) ?_ ?_ trivial
  ·intro i hi _;conv=>whnf
   refine br (fun hc=>?_) (fun hc=>?_)<;>(try rw[hc])<;>(conv=>whnf)
   ·refine⟨_,zT (by omega),?_⟩;conv=>whnf
    refine aR (hp _ (List.getElem_mem _)) ?_;conv=>whnf
    refine br (fun hc=>?_) (fun hc=>?_)<;>(try rw[hc])<;>(conv=>whnf)
    ·exact absurd hc (h2 i (by omega) hi)
    ·refine⟨trivial,⟨_,rfl,.cl (by simp[AV.cl,nF])⟩,⟨_,rfl,.cl (by simp[AV.cl,cD,hcap])⟩,⟨_,rfl,.cl rfl⟩,⟨_,aK (by omega),.cl rfl⟩,trivial⟩
   ·exfalso;have:=of_decide_eq_false hc;rw[jx] at this;omega
  ·intro _;conv=>whnf
   refine br (fun hc=>?_) (fun hc=>?_)<;>(try rw[hc])<;>(conv=>whnf)
   ·refine⟨_,zT hj,?_⟩;conv=>whnf
    refine aR (hp _ (List.getElem_mem _)) ?_;conv=>whnf
    refine br (fun hc=>?_) (fun hc=>?_)<;>(try rw[hc])<;>(conv=>whnf)
    ·subst hQ;rfl
    ·rw[h1] at hc;simp at hc
   ·exfalso;have:=of_decide_eq_false hc;rw[jx] at this;omega
 ·have hn:∀m,m∈l→p m=false:=by
   intro m hm;rw[Bool.eq_false_iff];intro h;exact ha (List.any_eq_true.2 ⟨m,hm,h⟩)
  refine⟨-1,?_,by rw[Bool.eq_false_iff.2 ha];decide⟩;refine cr (by simp[cD,AV.cl,nF,hcap]) rfl ?_;refine ak (af:=G0) false rfl (Nat.le_of_ble_eq_true rfl) ?_;generalize hQ:(fun(v:AV) (_:Heap)=>v=.int .i64 (-1))=Q;conv=>whnf
  refine gX 5 [(0,.fz k (ops l)),(1,.func (.func F) [] aM),(7,.int .i64 (ops l).length),(8,.int .i64 ((0:Nat):Int))] (by repeat' (first|exact trivial|refine cC rfl (by omega) ?_|refine bZ rfl (by omega) ?_|refine bC rfl (by omega) ?_|refine aV rfl (by first|rfl|simp[cD,AV.cl,bS,nF,hcap]) ?_|refine aV (aK (by omega)) rfl ?_)) ?_;refine fM 5 l.length (fun _=>True) (fun i=>[(0,.fz k (ops l)),(1,.func (.func F) [] aM),(7,.int .i64 (ops l).length),(8,.int .i64 (i:Nat))]) ?_ ?_ trivial
  ·intro i hi _;conv=>whnf
   refine br (fun hc=>?_) (fun hc=>?_)<;>(try rw[hc])<;>(conv=>whnf)
   ·refine⟨_,zT (by omega),?_⟩;conv=>whnf
    refine aR (hp _ (List.getElem_mem _)) ?_;conv=>whnf
    refine br (fun hc=>?_) (fun hc=>?_)<;>(try rw[hc])<;>(conv=>whnf)
    ·rw[hn _ (List.getElem_mem hi)] at hc;simp at hc
    ·refine⟨trivial,⟨_,rfl,.cl (by simp[AV.cl,nF])⟩,⟨_,rfl,.cl (by simp[AV.cl,cD,hcap])⟩,⟨_,rfl,.cl rfl⟩,⟨_,aK (by omega),.cl rfl⟩,trivial⟩
   ·exfalso;have:=of_decide_eq_false hc;rw[jx] at this;omega
  ·intro _;conv=>whnf
   refine br (fun hc=>?_) (fun hc=>?_)<;>(try rw[hc])<;>(conv=>whnf)
   ·exfalso;have:=of_decide_eq_true hc;rw[jx] at this;omega
   ·subst hQ;rfl
theorem Qd{F:Nat}{aM:List AV}{p:Op→Bool}(k:Nat)(l:List Op)(hl:l.length<2^62)(hcap:cD aM=true)(hp:∀m,m∈l→PC fs ms F (op m::aM) (.bool (p m))):
  PC fs ms 168 [.fz k (ops l),.func (.func F) [] aM] (.bool (l.any p)):=by
 obtain⟨n,c1,c2⟩:=Nx k l hl hcap hp;refine cr (by simp[cD,AV.cl,nF,hcap]) rfl ?_;refine ak (af:=LV) false rfl (Nat.le_of_ble_eq_true rfl) ?_;generalize hQ:(fun(v:AV) (_:Heap)=>v=.bool (l.any p))=Q;conv=>whnf
 refine aR c1 ?_;conv=>whnf
 subst hQ;exact congrArg AV.bool c2
theorem BI(o:Op):(ng o !=0)=!pe o:=by
 cases h:pe o<;>simp[ng,h]
theorem RM(o:Op):PC fs ms 169 [op o] (.bool (!pe o)):=by
 refine cr rfl rfl ?_;refine ak (af:=LW) false rfl (Nat.le_of_ble_eq_true rfl) ?_;generalize hQ:(fun(v:AV) (_:Heap)=>v=.bool (!pe o))=Q;conv=>whnf
 refine aR (Hg o) ?_;conv=>whnf
 subst hQ;exact congrArg AV.bool (BI o)
theorem Jm(k:Nat)(l:List Op)(hl:l.length<2^62):PC fs ms 168 [.fz k (ops l),.func (.func 169) [] []] (.bool (l.any fun o=>!pe o)):=
 Qd k l hl rfl (fun m _=>RM m)
theorem Si(n:Int):PC fs ms 102 [.int .i64 n] (.bool (decide (1≤n∧n≤64))):=by
 refine cr rfl rfl ?_;refine ak (af:=KT) false rfl (Nat.le_of_ble_eq_true rfl) ?_;generalize hQ:(fun(v:AV) (_:Heap)=>v=.bool (decide (1≤n∧n≤64)))=Q;conv=>whnf
 iterate 3 (all_goals (first|(refine br (fun hc=>?_) (fun hc=>?_)<;>(try rw[hc])<;>(conv=>whnf))|skip))
 all_goals (subst hQ;refine congrArg AV.bool ?_;rw[Bool.eq_iff_iff];simp at*;omega)
def kA(n t:Int):Int:=if t<0 then 2 else if t>1099511627776 then 10 else if t<n then 140 else 0
def gB(p n:Int):dD:=.cells [.int .i64 p,.int .i64 n] true 0
theorem Oh{h:Heap}{b:Nat}{p n t:Int}(hg:h.get b=some (gB p n)){Q:AV→Heap→Prop}(hQ:Q (.int .i64 (kA n t)) h):VD fs ms 156 [.ptr b 0,.int .i64 t] h Q:=by
 refine ak (af:=LJ) true rfl (Nat.le_of_ble_eq_true rfl) ?_;conv=>whnf
 refine br (fun hc=>?_) (fun hc=>?_)<;>(try rw[hc])<;>(conv=>whnf)
 ·rw[kA,if_pos (of_decide_eq_true hc)] at hQ;exact hQ
 ·rw[kA,if_neg (of_decide_eq_false hc)] at hQ;refine br (fun hc=>?_) (fun hc=>?_)<;>(try rw[hc])<;>(conv=>whnf)
  ·rw[if_pos (of_decide_eq_true hc)] at hQ;exact hQ
  ·rw[if_neg (of_decide_eq_false hc)] at hQ;refine⟨_,aT hg rfl,?_⟩;conv=>whnf
   refine br (fun hc=>?_) (fun hc=>?_)<;>(try rw[hc])<;>(conv=>whnf)
   ·rw[if_pos (of_decide_eq_true hc)] at hQ;exact hQ
   ·rw[if_neg (of_decide_eq_false hc)] at hQ;exact hQ
theorem D8{h:Heap}{b:Nat}{p n:Int}(hg:h.get b=some (gB p n))(hp:p≠0){Q:AV→Heap→Prop}(hQ:Q (.bool false) h):VD fs ms 144 [.ptr b 0] h Q:=by
 refine ak (af:=Lx) true rfl (Nat.le_of_ble_eq_true rfl) ?_;conv=>whnf
 refine⟨_,aT hg rfl,?_⟩;conv=>whnf
 rw[show(p==0)=false from beq_eq_false_iff_ne.2 hp];exact hQ
theorem Qu{h:Heap}{b:Nat}{p n t:Int}(hg:h.get b=some (gB p n))(hp:p≠0){Q:AV→Heap→Prop}(hQ:Q (.int .i64 (kA n t)) h):VD fs ms 142 [.ptr b 0,.int .i64 t] h Q:=by
 refine ak (af:=Lv) true rfl (Nat.le_of_ble_eq_true rfl) ?_;conv=>whnf
 refine D8 hg hp ?_;conv=>whnf
 refine br (fun hc=>?_) (fun hc=>?_)<;>(try rw[hc])<;>(conv=>whnf)
 ·rw[kA,if_pos (of_decide_eq_true hc)] at hQ;exact hQ
 ·rw[kA,if_neg (of_decide_eq_false hc)] at hQ;refine br (fun hc=>?_) (fun hc=>?_)<;>(try rw[hc])<;>(conv=>whnf)
  ·rw[if_pos (of_decide_eq_true hc)] at hQ;exact hQ
  ·rw[if_neg (of_decide_eq_false hc)] at hQ;refine⟨_,aT hg rfl,?_⟩;conv=>whnf
   refine br (fun hc=>?_) (fun hc=>?_)<;>(try rw[hc])<;>(conv=>whnf)
   ·rw[if_pos (of_decide_eq_true hc)] at hQ;exact hQ
   ·rw[if_neg (of_decide_eq_false hc)] at hQ;exact hQ
theorem JS{h:Heap}{b:Nat}{p n:Int}(hg:h.get b=some (gB p n)){Q:AV→Heap→Prop}(hQ:Q (.int .i64 n) h):VD fs ms 131 [.ptr b 0] h Q:=by
 refine ak (af:=Ll) true rfl (Nat.le_of_ble_eq_true rfl) ?_;conv=>whnf
 refine⟨_,aT hg rfl,?_⟩;conv=>whnf
 exact hQ
theorem M9{h:Heap}{b:Nat}{p n:Int}(hg:h.get b=some (gB p n))(hp:p≠0){Q:AV→Heap→Prop}(hQ:Q (.int .i64 n) h):VD fs ms 98 [.ptr b 0] h Q:=by
 refine ak (af:=Wj) true rfl (Nat.le_of_ble_eq_true rfl) ?_;conv=>whnf
 refine D8 hg hp ?_;conv=>whnf
 refine⟨_,aT hg rfl,?_⟩;conv=>whnf
 exact hQ
def zx(p n t:Int):Int:=if kA n t=0 then IntKind.i64.wrap (t+p) else n
theorem Oj{h:Heap}{b:Nat}{p n t:Int}(hg:h.get b=some (gB p n)){Q:AV→Heap→Prop}(hQ:∀h',h'.get b=some (gB p (zx p n t))→Fr h h' [b]→Q (.int .i64 (kA n t)) h'):VD fs ms 116 [.ptr b 0,.int .i64 t] h Q:=by
 refine ak (af:=K5) true rfl (Nat.le_of_ble_eq_true rfl) ?_;conv=>whnf
 refine Oh hg ?_;conv=>whnf
 refine br (fun hc=>?_) (fun hc=>?_)<;>(try rw[hc])<;>(conv=>whnf)
 ·refine⟨_,aT hg rfl,?_⟩;conv=>whnf
  refine⟨_,_,WG hg rfl rfl rfl,?_⟩;conv=>whnf
  have h0:kA n t=0:=by simpa using hc
  refine hQ _ ?_ ?_
  ·rw[zx,if_pos h0];exact ay
  ·exact(Fr.refl _ _).set (by simp)
 ·have h0:¬kA n t=0:=by simpa using hc
  refine hQ _ ?_ ?_
  ·rw[zx,if_neg h0];exact hg
  ·exact Fr.refl _ _
theorem Qx{h:Heap}{b:Nat}{p n t:Int}(hg:h.get b=some (gB p n))(hp:p≠0){Q:AV→Heap→Prop}(hQ:∀h',h'.get b=some (gB p (zx p n t))→Fr h h' [b]→Q (.int .i64 (kA n t)) h'):VD fs ms 96 [.ptr b 0,.int .i64 t] h Q:=by
 refine ak (af:=Wh) true rfl (Nat.le_of_ble_eq_true rfl) ?_;conv=>whnf
 refine Qu hg hp ?_;conv=>whnf
 refine br (fun hc=>?_) (fun hc=>?_)<;>(try rw[hc])<;>(conv=>whnf)
 ·refine⟨_,aT hg rfl,?_⟩;conv=>whnf
  refine⟨_,_,WG hg rfl rfl rfl,?_⟩;conv=>whnf
  have h0:kA n t=0:=by simpa using hc
  refine hQ _ ?_ ?_
  ·rw[zx,if_pos h0];exact ay
  ·exact(Fr.refl _ _).set (by simp)
 ·have h0:¬kA n t=0:=by simpa using hc
  refine hQ _ ?_ ?_
  ·rw[zx,if_neg h0];exact hg
  ·exact Fr.refl _ _
theorem Oi{h:Heap}{n:Int}{Q:AV→Heap→Prop}(h1:1≤n∧n≤64→Q (.cq [.ptr h.next 0,.int .i64 0]) (h.new (gB n 0)))(h2:¬(1≤n∧n≤64)→Q (.cq [.aQ,.int .i64 2]) h):VD fs ms 56 [.int .i64 n] h Q:=by
 refine ak (af:=VE) true rfl (Nat.le_of_ble_eq_true rfl) ?_;conv=>whnf
 iterate 2 (all_goals (first|(refine br (fun hc=>?_) (fun hc=>?_)<;>(try rw[hc])<;>(conv=>whnf))|skip))
 all_goals simp only[decide_eq_true_eq,decide_eq_false_iff_not] at*
 ·exact h2 (by omega)
 ·exact h2 (by omega)
 ·exact h1 (by omega)
theorem Qw{h:Heap}{n:Int}{Q:AV→Heap→Prop}(h1:1≤n∧n≤64→Q (.cq [.ptr h.next 0,.int .i64 0]) (h.new (gB n 0)))(h2:¬(1≤n∧n≤64)→Q (.cq [.aQ,.int .i64 2]) h):VD fs ms 37 [.int .i64 n] h Q:=by
 refine ak (af:=Vm) true rfl (Nat.le_of_ble_eq_true rfl) ?_;conv=>whnf
 refine aR (Si n) ?_;conv=>whnf
 refine br (fun hc=>?_) (fun hc=>?_)<;>(try rw[hc])<;>(conv=>whnf)
 ·exact h2 (by simp at hc;omega)
 ·exact h1 (by simp at hc;omega)
def s8:Op:=⟨0,0,[]⟩
def rH(l:List Op):Bool:=match l with
 |[]=>true
 |x::_=>x.k==1
def qY(l:List Op):List Op:=if rH l then l else l.tail
def qv(l:List Op):Bool:=match l with
 |[]=>false
 |x::_=>x.k==1
def kH:List Op→List Op
 |[]=>[]
 |x::r=>if x.k==1 then(if IntKind.i64.wrap (x.n-1)==0 then r else{x with n:=IntKind.i64.wrap (x.n-1)}::r) else x::r
def m8(l:List Op):Int:=l.foldl (fun a x=>if x.k==1 then IntKind.i64.wrap (a+x.n) else a) 0
def SB(v:AV):Prop:=v=.aL∨(∃x y z,v=.rest x y z)∨(∃k,v=.fz k [])∨∃b o op,v=.sl b o 0 0 op
def qA(h:Heap)(C o:Nat)(v:AV)(l:List Op):Prop:=match l with
 |[]=>SB v
 |_::_=>∃p cs,v=.sl C o l.length l.length p∧C<h.next∧h.get C=some (.cells cs true 3)∧cs.drop o=aa (ops l)
theorem SB.len{v:AV}(e:SB v):pV .bL [v]=some (.int .i64 0):=by
 rcases e with rfl|⟨_,_,_,rfl⟩|⟨_,rfl⟩|⟨_,_,_,rfl⟩<;>rfl
theorem qA.len{h:Heap}{C o:Nat}{v:AV}{l:List Op}(r:qA h C o v l):pV .bL [v]=some (.int .i64 ((l.length:Nat):Int)):=by
 cases l with
 |nil=>exact SB.len r
 |cons x l=>obtain⟨p,cs,rfl,_⟩:=r;rfl
theorem qA.keep{h h':Heap}{C o:Nat}{v:AV}{l:List Op}{bs:List Nat}(r:qA h C o v l)(f:Fr h h' bs)(hC:l≠[]→C∉bs):qA h' C o v l:=by
 cases l with
 |nil=>exact r
 |cons x l=>
  obtain⟨p,cs,e,h1,h2,h3⟩:=r;exact⟨p,cs,e,Nat.lt_of_lt_of_le h1 f.next,(f.keep C h1 (hC (by simp))).trans h2,h3⟩
section
variable {h:Heap} {C o:Nat} {v:AV} {x:Op} {l:List Op}
theorem qA.idx(r:qA h C o v (x::l)):pV (.az 3) [v,.int .i64 0]=some (.ptr C o):=by
 obtain⟨p,cs,rfl,_⟩:=r;rfl
theorem HN{α:Type}{cs:List α}{o i:Nat}{l:List α}(h:cs.drop o=l):cs[o+i]?=l[i]?:=by rw[←h,List.getElem?_drop]
theorem qA.ld(r:qA h C o v (x::l))(i:Nat){u:AV}(hu:(op x).cells[i]?=some u):rV .ck [.ptr C (o+i)] h=some u:=by
 obtain⟨p,cs,rfl,h1,h2,h3⟩:=r;refine aT h2 ?_;rw[HN h3];show((op x).cells++aa (ops l))[i]?=_;rw[List.getElem?_append_left (List.getElem?_eq_some_iff.1 hu).1];exact hu
theorem qA.u0(r:qA h C o v (x::l)):rV (.aZ 3) [.ptr C o] h=some (op x):=by
 obtain⟨p,cs,rfl,h1,h2,h3⟩:=r;have hl:3≤(cs.drop o).length:=by
  rw[h3];show 3≤((op x).cells++aa (ops l)).length;rw[List.length_append];exact Nat.le_add_right _ _
 rw[List.length_drop] at hl;have:=Ads.u0 (o:=o) (n:=3) h2 (by omega);rw[h3] at this;exact this
theorem qA.st(r:qA h C o v (x::l))(m:Int):∃h',eV (.store 1) [.ptr C (o+1),.int .i64 m] h=some (.undef,h')∧qA h' C o v ({x with n:=m}::l)∧Fr h h' [C]:=by
 obtain⟨p,cs,rfl,h1,h2,h3⟩:=r;have hl:cs.length=o+(3+(aa (ops l)).length):=by
  have:=congrArg List.length h3;rw[List.length_drop] at this;have e:(aa (ops (x::l))).length=3+(aa (ops l)).length:=by
   show((op x).cells++aa (ops l)).length=_;rw[List.length_append];rfl
  omega
 have hst:=bq (o:=o+1) (n:=1) (v:=.int .i64 m) h2 rfl (by omega) rfl;rw[show(AV.int IntKind.i64 m).cells=[.int .i64 m] from rfl,nq _ _ _ (by omega)] at hst;refine⟨_,hst,⟨p,cs.set (o+1) (.int .i64 m),rfl,h1,ay,?_⟩,(Fr.refl _ _).set (by simp)⟩;rw[List.drop_set,if_neg (by omega),h3,show o+1-o=1 by omega];rfl
theorem eG:aa (ops (x::l))=.int .i64 x.k::.int .i64 x.n::.str x.s::aa (ops l):=rfl
theorem qA.PD(r:qA h C o v (x::l)):∃v' o',pV (.slice 3 true false false) [v,.int .i64 1]=some v'∧qA h C o' v' l:=by
 obtain⟨p,cs,rfl,h1,h2,h3⟩:=r;have hb:bounds (l.length+1) (l.length+1) true false false [.int .i64 1]=some (1,l.length+1,l.length+1):=by
  have b1:Nat.ble 1 (l.length+1)=true:=Nat.ble_eq_true_of_le (by omega);have b2:Nat.ble (l.length+1) (l.length+1)=true:=Nat.ble_eq_true_of_le (by omega);show cond (Nat.ble 1 (l.length+1)&&Nat.ble (l.length+1) (l.length+1)&&Nat.ble (l.length+1) (l.length+1)) _ _=_;rw[b1,b2];rfl
 have he:pV (.slice 3 true false false) [.sl C o (x::l).length (x::l).length p,.int .i64 1]=(match bounds (l.length+1) (l.length+1) true false false [.int .i64 1] with
   |some (a,hh,mm)=>cond (Nat.beq mm a&&Nat.beq (l.length+1) mm&&(p&&!false&&!Nat.beq a 0)) (some (.rest C o (a*3))) (some (.sl C (o+cond (Nat.beq mm a) 0 (a*3)) (hh-a) (mm-a) p))
   |none=>none):=rfl
 rw[he,hb];cases l with
 |nil=>cases p<;>exact⟨_,o,rfl,by simp[qA,SB]⟩
 |cons y l=>
  refine⟨.sl C (o+3) (l.length+1) (l.length+1) p,o+3,by cases p<;>rfl,p,cs,rfl,h1,h2,?_⟩;rw[←List.drop_drop,h3,eG];rfl
theorem qA.UN(r:qA h C o v (x::l)):∃v' o',pV (.slice 3 true true true) [v,.int .i64 1,.int .i64 (((x::l).length:Nat):Int),.int .i64 (((x::l).length:Nat):Int)]=some v'∧qA h C o' v' l:=by
 obtain⟨p,cs,rfl,h1,h2,h3⟩:=r;have hb:bounds (l.length+1) (l.length+1) true true true [.int .i64 1,.int .i64 (((x::l).length:Nat):Int),.int .i64 (((x::l).length:Nat):Int)]=some (1,l.length+1,l.length+1):=by
  have b1:Nat.ble 1 (l.length+1)=true:=Nat.ble_eq_true_of_le (by omega);have b2:Nat.ble (l.length+1) (l.length+1)=true:=Nat.ble_eq_true_of_le (by omega);show cond (Nat.ble 1 (l.length+1)&&Nat.ble (l.length+1) (l.length+1)&&Nat.ble (l.length+1) (l.length+1)) _ _=_;rw[b1,b2];rfl
 have he:pV (.slice 3 true true true) [.sl C o (x::l).length (x::l).length p,.int .i64 1,.int .i64 (((x::l).length:Nat):Int),.int .i64 (((x::l).length:Nat):Int)]=(match bounds (l.length+1) (l.length+1) true true true [.int .i64 1,.int .i64 (((x::l).length:Nat):Int),.int .i64 (((x::l).length:Nat):Int)] with
   |some (a,hh,mm)=>cond (Nat.beq mm a&&Nat.beq (l.length+1) mm&&(p&&!true&&!Nat.beq a 0)) (some (.rest C o (a*3))) (some (.sl C (o+cond (Nat.beq mm a) 0 (a*3)) (hh-a) (mm-a) false))
   |none=>none):=rfl
 rw[he,hb];cases l with
 |nil=>cases p<;>exact⟨_,o,rfl,by simp[qA,SB]⟩
 |cons y l=>
  refine⟨.sl C (o+3) (l.length+1) (l.length+1) false,o+3,by cases p<;>rfl,false,cs,rfl,h1,h2,?_⟩;rw[←List.drop_drop,h3,eG];rfl
end
structure Rw(h:Heap)(b C o:Nat)(tl:List AV)(v:AV)(l:List Op):Prop where
 lt:b<h.next
 ne:l≠[]→b≠C
 st:h.get b=some (.cells (v::tl) true 0)
 row:qA h C o v l
theorem Rw.keep{h h':Heap}{b C o:Nat}{tl:List AV}{v:AV}{l:List Op}(r:Rw h b C o tl v l)(f:Fr h h' []):Rw h' b C o tl v l:=
 ⟨Nat.lt_of_lt_of_le r.lt f.next,r.ne,(f.keep b r.lt (by simp)).trans r.st,r.row.keep f (by simp)⟩
theorem qA.flat{h:Heap}{C o:Nat}{v:AV}{l:List Op}(r:qA h C o v l):v.cells=[v]∧bA [v]=true:=by
 cases l with
 |nil=>rcases r with rfl|⟨_,_,_,rfl⟩|⟨_,rfl⟩|⟨_,_,_,rfl⟩<;>exact⟨rfl,rfl⟩
 |cons x l=>obtain⟨p,cs,rfl,_⟩:=r;exact⟨rfl,rfl⟩
theorem Rw.set{h:Heap}{b C o o':Nat}{tl:List AV}{v v':AV}{x:Op}{l l':List Op}(r:Rw h b C o tl v (x::l))(r':qA h C o' v' l'):
  ∃h',eV (.store 1) [.ptr b 0,v'] h=some (.undef,h')∧Rw h' b C o' tl v' l'∧Fr h h' [b]:=by
 obtain⟨e1,e2⟩:=r'.flat;have hst:=bq (o:=0) (n:=1) (v:=v') r.st (by rw[e1];rfl) (by simp) (by rw[e1];exact e2);rw[e1,show Heap.splice (v::tl) 0 [v']=v'::tl by show v'::Heap.splice tl 0 []=_;rw[er]] at hst;have fr:Fr h (h.set b (.cells (v'::tl) true 0)) [b]:=(Fr.refl _ _).set (by simp);exact⟨_,hst,⟨r.lt,fun _=>r.ne (by simp),ay,r'.keep fr (fun _=>by simpa using(r.ne (by simp)).symm)⟩,fr⟩
theorem Rw.stN{h:Heap}{b C o:Nat}{tl:List AV}{v:AV}{x:Op}{l:List Op}(r:Rw h b C o tl v (x::l))(m:Int):
  ∃h',eV (.store 1) [.ptr C (o+1),.int .i64 m] h=some (.undef,h')∧Rw h' b C o tl v ({x with n:=m}::l)∧Fr h h' [C]:=by
 obtain⟨h',e,r',fr⟩:=r.row.st m;exact⟨h',e,⟨Nat.lt_of_lt_of_le r.lt fr.next,fun _=>r.ne (by simp),(fr.keep b r.lt (by simpa using r.ne (by simp))).trans r.st,r'⟩,fr⟩
section
variable {h:Heap} {b C o:Nat} {v:AV} {l:List Op} {Q:AV→Heap→Prop}
theorem Rw.wm{tl:List AV}(r:Rw h b C o tl v l):rV .ck [.ptr b 0] h=some v:=aT r.st rfl
theorem uS(r:Rw h b C o [.bool true] v l)(hQ:Q (.bool false) h):VD fs ms 161 [.ptr b 0] h Q:=by
 refine ak (af:=LO) true rfl (Nat.le_of_ble_eq_true rfl) ?_;conv=>whnf
 refine⟨_,aT r.st rfl,?_⟩;conv=>whnf
 exact hQ
theorem DQ(r:Rw h b C o [.bool true] v l)(hQ:Q (.bool (qv l)) h):VD fs ms 162 [.ptr b 0] h Q:=by
 refine ak (af:=LP) true rfl (Nat.le_of_ble_eq_true rfl) ?_;conv=>whnf
 refine⟨_,r.wm,?_⟩;conv=>whnf
 refine dM r.row.len ?_;conv=>whnf
 cases l with
 |nil=>
  conv=>whnf
  exact hQ
 |cons x l=>
  refine qt (decide_eq_true (by simp)) (fun hc=>?_)
  (try rw[hc])
  conv=>whnf
  refine⟨_,r.wm,?_⟩;conv=>whnf
  refine⟨_,r.row.idx,?_⟩;conv=>whnf
  refine⟨_,r.row.ld 0 rfl,?_⟩;conv=>whnf
  exact hQ
theorem O8{x:Op}(r:Rw h b C o [.bool true] v (x::l))(hQ:∀h' v' o',Rw h' b C o' [.bool true] v' l→Fr h h' [b]→Q (.cq []) h'):VD fs ms 163 [.ptr b 0] h Q:=by
 obtain⟨v',o',e,r'⟩:=r.row.UN;obtain⟨h',s,rw',fr⟩:=r.set r';refine ak (af:=LQ) true rfl (Nat.le_of_ble_eq_true rfl) ?_;conv=>whnf
 repeat(first|(refine⟨_,r.wm,?_⟩;conv=>whnf))
 refine dM r.row.len ?_;conv=>whnf
 repeat(first|(refine⟨_,r.wm,?_⟩;conv=>whnf))
 refine dM r.row.len ?_;conv=>whnf
 refine⟨_,e,?_⟩;conv=>whnf
 refine⟨_,_,s,?_⟩;conv=>whnf
 exact hQ _ _ _ rw' fr
theorem PT(r:Rw h b C o [.bool true] v l)(hQ:∀h' v' o',Rw h' b C o' [.bool true] v' (qY l)→Fr h h' [b]→Q (.int .i64 (if rH l then 250 else 0)) h'):VD fs ms 132 [.ptr b 0] h Q:=by
 refine ak (af:=Lm) true rfl (Nat.le_of_ble_eq_true rfl) ?_;conv=>whnf
 refine uS r ?_;conv=>whnf
 repeat(first|(refine⟨_,r.wm,?_⟩;conv=>whnf))
 refine dM r.row.len ?_;conv=>whnf
 cases l with
 |nil=>
  conv=>whnf
  exact hQ _ _ _ r (Fr.refl _ _)
 |cons x l=>
  conv=>whnf
  refine DQ r ?_;conv=>whnf
  refine br (fun hc=>?_) (fun hc=>?_)<;>(try rw[hc])<;>(conv=>whnf)
  ·have hk:(x.k==1)=true:=hc;have:=hQ _ _ _ (show Rw h b C o [.bool true] v (qY (x::l)) by simp only[qY,rH,hk];exact r) (Fr.refl _ _);simp only[rH,hk] at this;exact this
  ·have hk:(x.k==1)=false:=hc;refine O8 r fun h' v' o' r' fr=>?_;conv=>whnf
   have:=hQ h' v' o' (by simp only[qY,rH,hk];exact r') fr;simp only[rH,hk] at this;exact this
theorem P2(r:Rw h b C o [.bool true] v l)(hQ:∀h' v' o',Rw h' b C o' [.bool true] v' (kH l)→Fr h h' [b,C]→Q (.int .i64 (if qv l then 0 else 250)) h'):VD fs ms 133 [.ptr b 0] h Q:=by
 refine ak (af:=Ln) true rfl (Nat.le_of_ble_eq_true rfl) ?_;conv=>whnf
 refine uS r ?_;conv=>whnf
 refine DQ r ?_;conv=>whnf
 cases l with
 |nil=>
  conv=>whnf
  exact hQ _ _ _ r (Fr.refl _ _)
 |cons x l=>
  cases hk:(x.k==1) with
  |false=>
   rw[show qv (x::l)=(x.k==1) from rfl,hk] at hQ⊢;conv=>whnf
   exact hQ _ _ _ (by simp only[kH,hk];exact r) (Fr.refl _ _)
  |true=>
   rw[show qv (x::l)=(x.k==1) from rfl,hk] at hQ⊢;conv=>whnf
   repeat(first|(refine⟨_,r.wm,?_⟩;conv=>whnf))
   repeat(first|(refine⟨_,r.row.idx,?_⟩;conv=>whnf))
   repeat(first|(refine⟨_,r.row.ld 1 rfl,?_⟩;conv=>whnf))
   refine⟨_,r.row.idx,?_⟩;conv=>whnf
   obtain⟨h1,e,r1,dy⟩:=r.stN (IntKind.i64.wrap (x.n-1));refine⟨_,_,e,?_⟩;conv=>whnf
   refine⟨_,r1.wm,?_⟩;conv=>whnf
   refine⟨_,r1.row.idx,?_⟩;conv=>whnf
   refine⟨_,r1.row.ld 1 rfl,?_⟩;conv=>whnf
   have hr:kH (x::l)=if IntKind.i64.wrap (x.n-1)==0 then l else{x with n:=IntKind.i64.wrap (x.n-1)}::l:=by simp only[kH,hk];rfl
   rw[hr] at hQ;refine br (fun hc=>?_) (fun hc=>?_)<;>(try rw[hc])<;>(conv=>whnf)
   ·rw[if_pos hc] at hQ;refine O8 r1 fun h' v' o' r' fr=>?_;conv=>whnf
    exact hQ h' v' o' r' ((dy.wk (by simp)).trans (fr.wk (by simp)))
   ·rw[if_neg (by rw[hc];simp)] at hQ;exact hQ _ _ _ r1 (dy.wk (by simp))
end
theorem BL:∀{L:List Op} {i:Nat} (h:i<L.length),((aa (ops L)).drop (i*3)).take 3=(op L[i]).cells
 |[],i,h=>by simp at h
 |x::L,0,h=>by rw[Nat.zero_mul,List.drop_zero,eG];rfl
 |x::L,i+1,h=>by
  rw[show(i+1)*3=3+i*3 by omega,←List.drop_drop,eG];exact BL (L:=L) (i:=i) (by simpa using h)
section
variable {h:Heap} {b C o:Nat} {v:AV} {l:List Op} {Q:AV→Heap→Prop}
theorem qA.at(r:qA h C o v l){j:Nat}(hj:j<l.length):pV (.az 3) [v,.int .i64 ((j:Nat):Int)]=some (.ptr C (o+j*3))∧rV (.aZ 3) [.ptr C (o+j*3)] h=some (op l[j])∧
  ∀i u,(op l[j]).cells[i]?=some u→rV .ck [.ptr C (o+j*3+i)] h=some u:=by
 cases l with
 |nil=>simp at hj
 |cons x l=>
  obtain⟨p,cs,rfl,h1,h2,h3⟩:=r;have hd:(cs.drop (o+j*3)).take 3=(op (x::l)[j]).cells:=by rw[←List.drop_drop,h3];exact BL hj
  have hl:o+j*3+3≤cs.length:=by
   have:=congrArg List.length hd;rw[List.length_take,List.length_drop] at this;have e:(op (x::l)[j]).cells.length=3:=rfl;omega
  refine⟨?_,?_,fun i u hu=>aT h2 ?_⟩
  ·show cond (Nat.ble (j+1) (x::l).length) _ _=_;rw[Nat.ble_eq_true_of_le hj];rfl
  ·have:=Ads.u0 (o:=o+j*3) (n:=3) h2 hl;rw[hd] at this;exact this
  ·have hi:i<3:=(List.getElem?_eq_some_iff.1 hu).1;rw[←hd,List.getElem?_take_of_lt hi,List.getElem?_drop] at hu;exact hu
def I4(a:Int)(x:Op):Int:=if x.k==1 then IntKind.i64.wrap (a+x.n) else a
theorem wo{j:Nat}(hj:j<l.length):m8 (l.take (j+1))=I4 (m8 (l.take j)) l[j]:=by
 rw[nu hj,m8,List.foldl_append];rfl
theorem Mq{h0:Heap}(r:qA h0 C o v l)(hl:l.length≤64){B:Nat}{Q:AX→Env→Heap→Prop}(hQ:∀e' h',Fr h0 h' []→Tr.get e' 2=some (.int .i64 (m8 l))→Q (.exit 0) e' h'):
  ∀(m j:Nat) (h:Heap) (env:Env),l.length-j=m→j≤l.length→Fr h0 h []→dr env [(2,.int .i64 (m8 (l.take j))),(10,v),(11,.int .i64 ((l.length:Nat):Int)),(12,.int .i64 ((j:Nat):Int))]→
  VC fs ms B false (.loop mR) env h Q:=by
 intro m;induction m using Nat.strongRecOn with
 |ind m ih=>
 intro j h env hm hj fr dF;refine aH 4 _ dF ?_;refine cS (aF true ?_);conv=>whnf
 refine aF true ?_;conv=>whnf
 refine br (fun hc=>?_) (fun hc=>?_)<;>(try rw[hc])<;>(conv=>whnf)
 ·have hlt:j<l.length:=by have:=of_decide_eq_true hc;omega
  have hr:=r.keep fr (by simp);obtain⟨e1,e2,-⟩:=hr.at hlt;have jS:=wo hlt;generalize l[j]=x at*;refine aq (z:=true) ?_;conv=>whnf
  refine⟨_,e1,?_⟩;conv=>whnf
  refine⟨_,e2,?_⟩;conv=>whnf
  refine bW (bq aj rfl (Nat.le_refl _) rfl) fun h1 e1=>?_;have g1:h1.get h.next=some (.cells (op x).cells true 0):=by rw[e1,ay];rfl
  have dy:Fr h h1 []:=by rw[e1];exact((Fr.refl h []).new (x:=_)).ki (Nat.le_refl _)
  clear e1;conv=>whnf
  refine⟨_,aT g1 rfl,?_⟩;conv=>whnf
  rw[I4] at jS;refine br (fun hc=>?_) (fun hc=>?_)<;>(try rw[hc])<;>(conv=>whnf)
  ·rw[if_pos hc] at jS;refine⟨_,aT g1 rfl,?_⟩;conv=>whnf
   refine ih (l.length-(j+1)) (by omega) (j+1) _ _ rfl (by omega) (fr.trans dy) ⟨by rw[jS];rfl,rfl,rfl,aK (by omega),trivial⟩
  ·rw[if_neg (by rw[hc];simp)] at jS;refine ih (l.length-(j+1)) (by omega) (j+1) _ _ rfl (by omega) (fr.trans dy) ⟨by rw[jS];rfl,rfl,rfl,aK (by omega),trivial⟩
 ·have hge:j=l.length:=by have:=of_decide_eq_false hc;omega
  refine hQ _ _ fr ?_;rw[hge,List.take_length];rfl
theorem Mp(r:Rw h b C o [.bool true] v l)(hl:l.length≤64)(hQ:∀h',Fr h h' []→Q (.int .i64 (m8 l)) h'):VD fs ms 145 [.ptr b 0] h Q:=by
 refine bY (af:=Ly) rfl (Nat.le_of_ble_eq_true rfl) ?_;conv=>whnf
 refine aF true ?_;conv=>whnf
 refine bu (aF true ?_);conv=>whnf
 refine uS r ?_;conv=>whnf
 refine aq (z:=true) ?_;conv=>whnf
 refine bu (aF true ?_);conv=>whnf
 refine⟨_,r.wm,?_⟩;conv=>whnf
 refine dM r.row.len ?_;conv=>whnf
 refine bx ?_;refine Mq r.row hl ?_ l.length 0 h _ rfl (Nat.zero_le _) (Fr.refl _ _) ⟨rfl,rfl,rfl,rfl,trivial⟩;intro e' h' fr he;refine aH 4 [(2,.int .i64 (m8 l))] ⟨he,trivial⟩ (aq (z:=true) ?_);conv=>whnf
 exact hQ _ fr
end
theorem jV{e:Env}{h:Heap}{a b o n t:Nat}{cs:List AV}{w:AV}(ha:Tr.get e a=some (.ptr b o))(hl:h.aZ b o n=some cs)(ht:Tr.get e t=some w):dH e h [.cell a n true,.tmp t]=some [.agg cs,w]:=by
 simp only[dH,n8,ha,hl,ht,Option.map_some,cond_true]
section
variable {h:Heap} {b C o:Nat} {v:AV} {l:List Op} {Q:AV→Heap→Prop}
theorem Mr(r:Rw h b C o [.bool true] v l)(hQ:∀h',Fr h h' []→Q (.cq [op (l.headD s8),.bool (!l.isEmpty)]) h'):VD fs ms 148 [.ptr b 0] h Q:=by
 refine ak (af:=LB) true rfl (Nat.le_of_ble_eq_true rfl) ?_;conv=>whnf
 have r1:=r.keep ((Fr.refl h []).new (x:=.cells (op s8).cells true 0));refine uS r1 ?_;conv=>whnf
 refine⟨_,r1.wm,?_⟩;conv=>whnf
 refine dM r1.row.len ?_;conv=>whnf
 cases l with
 |nil=>
  conv=>whnf
  refine bW (bq aj rfl (Nat.le_refl _) rfl) fun h1 e1=>?_;conv=>whnf
  refine dM (jV rfl (bR (vs:=(op s8).cells) (by rw[e1];exact ay) (Nat.le_refl _)) rfl) ?_;conv=>whnf
  exact hQ _ (by rw[e1];exact((Fr.refl h []).new (x:=_)).ki (Nat.le_refl _))
 |cons x l=>
  conv=>whnf
  refine⟨_,r1.wm,?_⟩;conv=>whnf
  refine⟨_,r1.row.idx,?_⟩;conv=>whnf
  refine⟨_,r1.row.u0,?_⟩;conv=>whnf
  refine bW (bq aj rfl (Nat.le_refl _) rfl) fun h1 e1=>?_;conv=>whnf
  refine dM (jV rfl (bR (vs:=(op x).cells) (by rw[e1];exact ay) (Nat.le_refl _)) rfl) ?_;conv=>whnf
  exact hQ _ (by rw[e1];exact((Fr.refl h []).new (x:=_)).ki (Nat.le_refl _))
theorem B2(r:Rw h b C o [] v l)(hQ:∀h',Fr h h' []→Q (.cq [op (l.headD s8),.bool (!l.isEmpty)]) h'):VD fs ms 159 [.ptr b 0] h Q:=by
 refine ak (af:=LM) true rfl (Nat.le_of_ble_eq_true rfl) ?_;conv=>whnf
 have r1:=r.keep ((Fr.refl h []).new (x:=.cells (op s8).cells true 0));refine⟨_,r1.wm,?_⟩;conv=>whnf
 refine dM r1.row.len ?_;conv=>whnf
 cases l with
 |nil=>
  conv=>whnf
  refine bW (bq aj rfl (Nat.le_refl _) rfl) fun h1 e1=>?_;conv=>whnf
  refine dM (jV rfl (bR (vs:=(op s8).cells) (by rw[e1];exact ay) (Nat.le_refl _)) rfl) ?_;conv=>whnf
  exact hQ _ (by rw[e1];exact((Fr.refl h []).new (x:=_)).ki (Nat.le_refl _))
 |cons x l=>
  conv=>whnf
  refine⟨_,r1.wm,?_⟩;conv=>whnf
  refine⟨_,r1.row.idx,?_⟩;conv=>whnf
  refine⟨_,r1.row.u0,?_⟩;conv=>whnf
  refine bW (bq aj rfl (Nat.le_refl _) rfl) fun h1 e1=>?_;conv=>whnf
  refine dM (jV rfl (bR (vs:=(op x).cells) (by rw[e1];exact ay) (Nat.le_refl _)) rfl) ?_;conv=>whnf
  exact hQ _ (by rw[e1];exact((Fr.refl h []).new (x:=_)).ki (Nat.le_refl _))
theorem Ov(r:Rw h b C o [] v l)(hQ:∀h' v' o',Rw h' b C o' [] v' (qY l)→Fr h h' [b]→Q (.int .i64 (if rH l then 250 else 0)) h'):VD fs ms 157 [.ptr b 0] h Q:=by
 refine ak (af:=LK) true rfl (Nat.le_of_ble_eq_true rfl) ?_;conv=>whnf
 refine⟨_,r.wm,?_⟩;conv=>whnf
 refine dM r.row.len ?_;conv=>whnf
 cases l with
 |nil=>
  conv=>whnf
  exact hQ _ _ _ r (Fr.refl _ _)
 |cons x l=>
  conv=>whnf
  refine⟨_,r.wm,?_⟩;conv=>whnf
  refine⟨_,r.row.idx,?_⟩;conv=>whnf
  refine⟨_,r.row.ld 0 rfl,?_⟩;conv=>whnf
  refine br (fun hc=>?_) (fun hc=>?_)<;>(try rw[hc])<;>(conv=>whnf)
  ·have hk:(x.k==1)=true:=hc;have:=hQ _ _ _ (show Rw h b C o [] v (qY (x::l)) by simp only[qY,rH,hk];exact r) (Fr.refl _ _);simp only[rH,hk] at this;exact this
  ·have hk:(x.k==1)=false:=hc;obtain⟨v',o',e,r'⟩:=r.row.PD;obtain⟨h',s,rw',fr⟩:=r.set r';refine⟨_,r.wm,?_⟩;conv=>whnf
   refine⟨_,e,?_⟩;conv=>whnf
   refine⟨_,_,s,?_⟩;conv=>whnf
   have:=hQ h' v' o' (by simp only[qY,rH,hk];exact rw') fr;simp only[rH,hk] at this;exact this
end
theorem qA.lt{h:Heap}{C o:Nat}{v:AV}{x:Op}{l:List Op}(r:qA h C o v (x::l)):C<h.next:=by
 obtain⟨p,cs,rfl,h1,_⟩:=r;exact h1
theorem Rw.stA{h:Heap}{b C o:Nat}{tl:List AV}{v:AV}{x:Op}{l:List Op}(r:Rw h b C o tl v (x::l))(y:Op):
  ∃h',eV (.store 3) [.ptr C o,op y] h=some (.undef,h')∧Rw h' b C o tl v (y::l)∧Fr h h' [C]:=by
 obtain⟨p,cs,rfl,h1,h2,h3⟩:=r.row;have hl:cs.length=o+(3+(aa (ops l)).length):=by
  have:=congrArg List.length h3;rw[List.length_drop,eG] at this;simp only[List.length_cons] at this;omega
 have hc:cs=cs.take o++(.int .i64 x.k::.int .i64 x.n::.str x.s::aa (ops l)):=by rw[←eG,←h3,List.take_append_drop]
 have ho:(cs.take o).length=o:=by rw[List.length_take];omega
 have hsp:Heap.splice cs o (op y).cells=cs.take o++aa (ops (y::l)):=by
  have:=rL (cs.take o) (.int .i64 x.k::.int .i64 x.n::.str x.s::aa (ops l)) (op y).cells (by simp[op,AV.cells]);rw[ho,←hc] at this;rw[this,List.append_assoc];rfl
 have hst:=bq (o:=o) (n:=3) (v:=op y) h2 rfl (by omega) rfl;rw[hsp] at hst;have fr:Fr h (h.set C (.cells (cs.take o++aa (ops (y::l))) true 3)) [C]:=(Fr.refl _ _).set (by simp);refine⟨_,hst,⟨r.lt,fun _=>r.ne (by simp),(fr.keep b r.lt (by simpa using r.ne (by simp))).trans r.st,p,_,rfl,h1,ay,?_⟩,fr⟩;rw[List.drop_append_of_le_length (by omega),List.drop_eq_nil_of_le (by omega)];rfl
section
variable {h:Heap} {b C o:Nat} {v:AV} {l:List Op} {Q:AV→Heap→Prop}
theorem Oy(r:Rw h b C o [] v l)(hQ:∀h' v' o',Rw h' b C o' [] v' (kH l)→Fr h h' [b,C]→Q (.int .i64 (if qv l then 0 else 250)) h'):VD fs ms 158 [.ptr b 0] h Q:=by
 refine ak (af:=LL) true rfl (Nat.le_of_ble_eq_true rfl) ?_;conv=>whnf
 refine⟨_,r.wm,?_⟩;conv=>whnf
 refine dM r.row.len ?_;conv=>whnf
 cases l with
 |nil=>
  conv=>whnf
  exact hQ _ _ _ r (Fr.refl _ _)
 |cons x l=>
  conv=>whnf
  refine⟨_,r.wm,?_⟩;conv=>whnf
  refine⟨_,r.row.idx,?_⟩;conv=>whnf
  refine⟨_,r.row.ld 0 rfl,?_⟩;conv=>whnf
  rw[show qv (x::l)=(x.k==1) from rfl] at hQ;cases hk:(x.k==1) with
  |false=>
   rw[hk] at hQ;rw[show(x.k !=1)=true by rw[bne,hk];rfl];conv=>whnf
   exact hQ _ _ _ (by simp only[kH,hk];exact r) (Fr.refl _ _)
  |true=>
   rw[hk] at hQ;rw[show(x.k !=1)=false by rw[bne,hk];rfl];conv=>whnf
   refine⟨_,r.wm,?_⟩;conv=>whnf
   refine⟨_,r.row.idx,?_⟩;conv=>whnf
   refine⟨_,r.row.u0,?_⟩;conv=>whnf
   refine bW (bq aj rfl (Nat.le_refl _) rfl) fun h1 e1=>?_;have g1:h1.get h.next=some (.cells (op x).cells true 0):=by rw[e1,ay];rfl
   have dy:Fr h h1 []:=by rw[e1];exact((Fr.refl h []).new (x:=_)).ki (Nat.le_refl _)
   have n1:h.next<h1.next:=by rw[e1];exact Nat.lt_succ_self _
   clear e1;conv=>whnf
   refine⟨_,aT g1 rfl,?_⟩;conv=>whnf
   refine bW (bq g1 rfl (Nat.le_of_ble_eq_true rfl) rfl) fun h2 e2=>?_;have g2:h2.get h.next=some (.cells (op {x with n:=IntKind.i64.wrap (x.n-1)}).cells true 0):=by rw[e2,ay];rfl
   have ey:Fr h h2 []:=by rw[e2];exact dy.ki (Nat.le_refl _)
   have n2:h.next<h2.next:=by rw[e2];exact n1
   clear e2 g1 dy n1;conv=>whnf
   have r2:=r.keep ey;refine⟨_,r2.wm,?_⟩;conv=>whnf
   refine⟨_,Ads.u0 (n:=3) g2 (Nat.le_refl _),?_⟩;conv=>whnf
   refine⟨_,r2.row.idx,?_⟩;conv=>whnf
   obtain⟨h3,e3,r3,gx⟩:=r2.stA {x with n:=IntKind.i64.wrap (x.n-1)};refine⟨_,_,e3,?_⟩;conv=>whnf
   have hC:=r.row.lt;have g3:h3.get h.next=some (.cells (op {x with n:=IntKind.i64.wrap (x.n-1)}).cells true 0):=(gx.keep _ n2 (by simp;omega)).trans g2;refine⟨_,aT g3 rfl,?_⟩;conv=>whnf
   have hr:kH (x::l)=if IntKind.i64.wrap (x.n-1)==0 then l else{x with n:=IntKind.i64.wrap (x.n-1)}::l:=by simp only[kH,hk];rfl
   rw[hr] at hQ;have FI:Fr h h3 [b,C]:=(ey.wk (by simp)).trans (gx.wk (by simp));refine br (fun hc=>?_) (fun hc=>?_)<;>(try rw[hc])<;>(conv=>whnf)
   ·rw[if_pos hc] at hQ;obtain⟨v',o',e,r'⟩:=r3.row.PD;obtain⟨h',s,rw',fr⟩:=r3.set r';refine⟨_,r3.wm,?_⟩;conv=>whnf
    refine⟨_,e,?_⟩;conv=>whnf
    refine⟨_,_,s,?_⟩;conv=>whnf
    exact hQ h' v' o' rw' (FI.trans (fr.wk (by simp)))
   ·rw[if_neg (by rw[hc];simp)] at hQ;exact hQ _ _ _ r3 FI
theorem JV{h:Heap}(r:Rw h b C o [] v l)(hl:l.length≤64){B:Nat}{Q:AX→Env→Heap→Prop}(hQ:∀e',Tr.get e' 3=some (.int .i64 (m8 l))→Q (.exit 0) e' h):
  ∀(m j:Nat) (env:Env),l.length-j=m→j≤l.length→dr env [(0,.ptr b 0),(3,.int .i64 (m8 (l.take j))),(4,.int .i64 ((j:Nat):Int))]→
  VC fs ms B false (.loop fR) env h Q:=by
 intro m;induction m using Nat.strongRecOn with
 |ind m ih=>
 intro j env hm hj dF;refine aH 3 _ dF ?_;refine dI (z:=true) ?_;conv=>whnf
 refine⟨_,r.wm,?_⟩;conv=>whnf
 refine dM r.row.len ?_;conv=>whnf
 refine br (fun hc=>?_) (fun hc=>?_)<;>(try rw[hc])<;>(conv=>whnf)
 ·have hlt:j<l.length:=by have:=of_decide_eq_true hc;omega
  obtain⟨e1,-,e2⟩:=r.row.at hlt;have jS:=wo hlt;generalize l[j]=x at*;refine⟨_,r.wm,?_⟩;conv=>whnf
  refine⟨_,e1,?_⟩;conv=>whnf
  refine⟨_,e2 0 _ rfl,?_⟩;conv=>whnf
  rw[I4] at jS;refine br (fun hc=>?_) (fun hc=>?_)<;>(try rw[hc])<;>(conv=>whnf)
  ·rw[if_pos hc] at jS;refine⟨_,r.wm,?_⟩;conv=>whnf
   refine⟨_,e1,?_⟩;conv=>whnf
   refine⟨_,e2 1 _ rfl,?_⟩;conv=>whnf
   exact ih (l.length-(j+1)) (by omega) (j+1) _ rfl (by omega) ⟨rfl,by rw[jS];rfl,aK (by omega),trivial⟩
  ·rw[if_neg (by rw[hc];simp)] at jS;exact ih (l.length-(j+1)) (by omega) (j+1) _ rfl (by omega) ⟨rfl,by rw[jS];rfl,aK (by omega),trivial⟩
 ·have hge:j=l.length:=by have:=of_decide_eq_false hc;omega
  refine hQ _ ?_;rw[hge,List.take_length];rfl
theorem JU(r:Rw h b C o [] v l)(hl:l.length≤64)(hQ:Q (.int .i64 (m8 l)) h):VD fs ms 160 [.ptr b 0] h Q:=by
 refine bY (af:=LN) rfl (Nat.le_of_ble_eq_true rfl) ?_;conv=>whnf
 refine aF true ?_;conv=>whnf
 refine aF true ?_;conv=>whnf
 refine bu (aF true ?_);conv=>whnf
 refine bx ?_;refine JV r hl ?_ l.length 0 _ rfl (Nat.zero_le _) ⟨rfl,rfl,rfl,trivial⟩;intro e' he;refine aH 4 [(3,.int .i64 (m8 l))] ⟨he,trivial⟩ (aq (z:=true) ?_);conv=>whnf
 exact hQ
end
theorem tC:∀l:List Op,bA (aa (ops l))=true
 |[]=>rfl
 |x::l=>by
  rw[eG];simp only[FH,tC l];rfl
def lQ(l:List Op):Int:=if l.length>32 then 5 else if l.any (fun o=>!pe o) then 2 else 0
theorem Sd{e:Env}{h:Heap}{a b:Nat}{v w:AV}(ha:Tr.get e a=some v)(hb:Tr.get e b=some w):dH e h [.tmp a,.tmp b]=some [v,w]:=by
 simp only[dH,n8,ha,hb]
theorem Yo{v:AV}(fl:v.cells=[v]):pV (.build [.aL,.bool false] [(0,1),(1,1)]) [v,.bool true]=some (.agg [v,.bool true]):=by
 show(fill [.aL,.bool false] [(0,1),(1,1)] [v,.bool true]).map AV.agg=_;simp only[fill];rw[fl];rfl
section
variable {h:Heap} {Q:AV→Heap→Prop} {k:Nat} {l:List Op}
theorem HF(hk:k=3→l=[])(hl:l.length≤32)(hQ:∀h' C v,qA h' C 0 v l→h.next≤C→(l≠[]→C<h'.next)→Fr h h' []→Q v h'):VD fs ms 171 [.fz k (ops l)] h Q:=by
 refine ak (af:=LY) true rfl (Nat.le_of_ble_eq_true rfl) ?_;conv=>whnf
 cases hb:Nat.beq k 3 with
 |true=>
  have:=hk (Nat.eq_of_beq_eq_true hb);subst this;conv=>whnf
  exact hQ h h.next .aL (.inl rfl) (Nat.le_refl _) (by simp) (Fr.refl _ _)
 |false=>
  conv=>whnf
  cases l with
  |nil=>
   refine bW (vv (s:=3) (bytes:=32) (b:=h.next) (nx:=h.next+1) (rN (k:=k) (wV [])) rfl) fun h1 e1=>?_;conv=>whnf
   exact hQ _ h.next _ (.inr (.inr (.inr ⟨_,_,_,rfl⟩))) (Nat.le_refl _) (by simp) (by rw[e1];exact(Fr.refl h []).new)
  |cons x l=>
   refine bW (zf (s:=3) (bytes:=32) (n:=l.length) (b:=h.next) (nx:=h.next+1) (cs:=aa (ops (x::l))) aj (by omega) (by simp at hl;omega) ((rN (k:=k) (wV (x::l))).trans (by rw[jx];rfl)) (tC _)) fun h1 e1=>?_;conv=>whnf
   refine hQ h1 (h.next+1) _ ⟨true,_,rfl,by rw[e1];exact Nat.lt_succ_self _,by rw[e1];exact aj (h:=h.new _),by rw[List.drop_zero]⟩ (by omega) (fun _=>by rw[e1];exact Nat.lt_succ_self _) (by rw[e1];exact(Fr.refl h []).new.new)
theorem PW(hk:k=3→l=[])(hl:l.length<2^62)(h0:lQ l≠0→∀h',Fr h h' []→Q (.cq [.aQ,.int .i64 (lQ l)]) h')
  (h1:lQ l=0→∀h' b C v,Rw h' b C 0 [.bool true] v l→h.next≤b→h.next≤C→(l≠[]→C<h'.next)→Fr h h' []→Q (.cq [.ptr b 0,.int .i64 0]) h'):VD fs ms 141 [.fz k (ops l)] h Q:=by
 refine ak (af:=Lu) true rfl (Nat.le_of_ble_eq_true rfl) ?_;conv=>whnf
 rw[jx];refine br (fun hc=>?_) (fun hc=>?_)<;>(try rw[hc])<;>(conv=>whnf)
 ·have e:lQ l=5:=by rw[lQ,if_pos (by have:=of_decide_eq_true hc;omega)]
  rw[e] at h0;exact h0 (by decide) _ (Fr.refl _ _)
 ·have hn:¬l.length>32:=by have:=of_decide_eq_false hc;omega
  refine aR (Jm k l hl) ?_;conv=>whnf
  refine br (fun hc=>?_) (fun hc=>?_)<;>(try rw[hc])<;>(conv=>whnf)
  ·have e:lQ l=2:=by rw[lQ,if_neg hn,if_pos hc]
   rw[e] at h0;exact h0 (by decide) _ (Fr.refl _ _)
  ·have e:lQ l=0:=by rw[lQ,if_neg hn,if_neg (by rw[hc];simp)]
   refine HF hk (by omega) fun h2 C v r hC Pk fr=>?_;conv=>whnf
   have fl:=r.flat;refine qc (Yo fl.1) ?_;conv=>whnf
   refine h1 e _ h2.next C v ⟨Nat.lt_succ_self _,fun hne=>by have:=Pk hne;omega,?_,r.keep ((Fr.refl h2 []).new (x:=_)) (by simp)⟩ fr.next hC (fun hne=>Nat.lt_succ_of_lt (Pk hne)) (fr.trans ((Fr.refl h2 []).new (x:=_)));exact aj
theorem Ox{j0:Nat}(hl:l.length≤32){B:Nat}{Q:AX→Env→Heap→Prop}(YM:l.any (fun o=>!pe o)=true→∀e' h',Fr h h' []→Tr.get e' 2=some .aQ→Tr.get e' 3=some (.int .i64 2)→Q .ret e' h')
  (hok:l.any (fun o=>!pe o)=false→∀e' h',Fr h h' []→Tr.get e' 0=some (.fz k (ops l))→Q (.exit 0) e' h'):
  ∀(m j:Nat) (h1:Heap) (env:Env),l.length-j=m→j≤l.length→(l.take j).any (fun o=>!pe o)=false→Fr h h1 []→dr env [(0,.fz k (ops l)),(4,.int .i64 ((j:Nat):Int))]→
  VC fs ms B false (.loop iY) env h1 Q:=by
 intro m;induction m using Nat.strongRecOn with
 |ind m ih=>
 intro j h1 env hm hj hno fr dF;refine aH 3 _ dF ?_;refine dI (z:=true) ?_;conv=>whnf
 rw[jx];refine br (fun hc=>?_) (fun hc=>?_)<;>(try rw[hc])<;>(conv=>whnf)
 ·have hlt:j<l.length:=by have:=of_decide_eq_true hc;omega
  refine⟨_,zT hlt,?_⟩;conv=>whnf
  refine⟨op l[j],rfl,?_⟩;conv=>whnf
  refine aR (Fu l[j]) ?_;conv=>whnf
  rw[BI];have jS:(l.take (j+1)).any (fun o=>!pe o)=!pe l[j]:=by rw[nu hlt,List.any_append,hno];simp
  refine br (fun hc=>?_) (fun hc=>?_)<;>(try rw[hc])<;>(conv=>whnf)
  ·refine YM ?_ _ _ fr rfl rfl;have:=List.any_eq_true.1 (jS.trans hc);obtain⟨x,hx,hb⟩:=this;exact List.any_eq_true.2 ⟨x,List.mem_of_mem_take hx,hb⟩
  ·exact ih (l.length-(j+1)) (by omega) (j+1) _ _ rfl (by omega) (jS.trans hc) fr ⟨rfl,aK (by omega),trivial⟩
 ·have hge:j=l.length:=by have:=of_decide_eq_false hc;omega
  rw[hge,List.take_length] at hno;exact hok hno _ _ fr rfl
theorem Ow(hl:l.length<2^62)(h0:lQ l≠0→∀h',Fr h h' []→Q (.cq [.aQ,.int .i64 (lQ l)]) h')
  (h1:lQ l=0→∀h' b C v,Rw h' b C 0 [] v l→h.next≤b→h.next≤C→(l≠[]→C<h'.next)→Fr h h' []→Q (.cq [.ptr b 0,.int .i64 0]) h'):VD fs ms 155 [.fz k (ops l)] h Q:=by
 refine bY (af:=LI) rfl (Nat.le_of_ble_eq_true rfl) ?_;conv=>whnf
 refine aF true ?_;conv=>whnf
 refine bu (aq (z:=true) ?_);conv=>whnf
 rw[jx];refine br (fun hc=>?_) (fun hc=>?_)<;>(try rw[hc])<;>(conv=>whnf)
 ·have e:lQ l=5:=by rw[lQ,if_pos (by have:=of_decide_eq_true hc;omega)]
  rw[e] at h0;exact h0 (by decide) _ (Fr.refl _ _)
 ·have hn:¬l.length>32:=by have:=of_decide_eq_false hc;omega
  refine bu (aF true ?_);conv=>whnf
  refine bx ?_;refine Ox (h:=h) (j0:=0) (by omega) ?_ ?_ l.length 0 h _ rfl (Nat.zero_le _) rfl (Fr.refl _ _) ⟨rfl,rfl,trivial⟩
  ·intro hb e' h' fr e2 e3;have e:lQ l=2:=by rw[lQ,if_neg hn,if_pos hb]
   rw[e] at h0;conv=>whnf
   refine dM (Sd e2 e3) ?_;conv=>whnf
   exact h0 (by decide) _ fr
  ·intro hb e' h' fr e0;have e:lQ l=0:=by rw[lQ,if_neg hn,if_neg (by rw[hb];simp)]
   show VC fs ms _ _ _ _ _ _;refine aH 4 [(0,.fz k (ops l))] ⟨e0,trivial⟩ (aq (z:=true) ?_);conv=>whnf
   refine⟨_,aT aj rfl,?_⟩;conv=>whnf
   have hs:=mU (bytes:=32) (h:=h'.new (.cells (AV.agg [AV.aL]).cells true 0)) (rN (k:=k) (wV l)) (tC l) (by rw[jx];omega) (by rw[jx];omega);rw[jx] at hs;cases l with
   |nil=>
    refine bW hs fun h2 e2=>?_;conv=>whnf
    refine bW (bq (by rw[e2];exact aj) rfl (Nat.le_refl _) rfl) fun h3 e3=>?_;conv=>whnf
    have Yu:Fr h h3 []:=by rw[e3,e2];exact fr.trans (((Fr.refl h' []).new (x:=_)).ki (Nat.le_refl _))
    refine h1 e h3 h'.next h'.next .aL ⟨by rw[e3,e2];exact Nat.lt_succ_self _,by simp,by rw[e3];exact ay,.inl rfl⟩ fr.next fr.next (by simp) Yu
   |cons x r=>
    rw[if_neg (by simp)] at hs;refine bW hs fun h2 e2=>?_;conv=>whnf
    refine bW (bq (by rw[e2];exact(aA (h:=h'.new _) (Nat.lt_succ_self _)).trans aj) rfl (Nat.le_refl _) rfl) fun h3 e3=>?_;conv=>whnf
    have Yu:Fr h h3 []:=by rw[e3,e2];exact fr.trans (((Fr.refl h' []).new.new (x:=_)).ki (Nat.le_refl _))
    have hfn:=fr.next;refine h1 e h3 h'.next (h'.next+1) _ ⟨by rw[e3,e2];show h'.next<h'.next+1+1;omega,fun _=>by omega,by rw[e3];exact ay,true,_,rfl,by rw[e3,e2];exact Nat.lt_succ_self _,?_,by rw[List.drop_zero]⟩ hfn (by omega) (fun _=>by rw[e3,e2];exact Nat.lt_succ_self _) Yu;rw[e3,aX (by omega),e2];exact aj (h:=h'.new _)
end
structure Jb where
 t:Tk
 l:List Op
 e:Int
 n:Int
 s:Int
 k:Int
 c:Int
 g:Bool
def v8(j:Jb):Jb:={j with l:=qY j.l,g:=j.g||!rH j.l}
def ur(j:Jb):Int:=if rH j.l then 250 else 0
def mu(j:Jb):Int:=if j.s==3 then 250 else if qv j.l then 0 else 250
def nQ(j:Jb):Jb:=if mu j==0 then{j with l:=kH j.l,g:=true,n:=IntKind.i64.wrap (j.n+1),k:=if j.s !=0 then IntKind.i64.wrap (j.k+1) else j.k} else j
def gM(j:Jb)(s:Int):Int:=if decide (s<1)||decide (s>3) then 2 else if j.s==3&&s==2 then 0 else if j.s !=0 then 130 else if s !=1&&decide (j.c≥j.t.f) then 170 else 0
def mI(j:Jb)(s:Int):Jb:=if gM j s==0 then(if j.s==3&&s==2 then{j with s:=s} else{j with s:=s,k:=0,c:=if s !=1 then IntKind.i64.wrap (j.c+1) else j.c}) else j
def uu(j:Jb):Int:=if j.s==0 then 132 else 0
def sC(j:Jb):Jb:=if j.s==0 then j else{j with s:=0,k:=0}
def qJ(j:Jb):Bool:=if j.s==2 then decide (j.k≥j.t.e) else if j.s==1 then decide (j.k≥j.t.b)&&qv j.l else false
def ru(j:Jb)(now:Int):Int:=if j.l.isEmpty then 0 else if decide (now≥j.e) then 3 else if decide (j.n≥j.t.w)&&decide (m8 j.l>0) then 1 else if qJ j then 2 else 0
def jB(p:Nat)(j:Jb):dD:=.cells (.ptr p 0::((tk j.t).cells++[.int .i64 j.e,.int .i64 j.n,.int .i64 j.s,.int .i64 j.k,.int .i64 j.c,.bool j.g])) true 0
structure JP(h:Heap)(b p C o:Nat)(v:AV)(j:Jb):Prop where
 lt:b<h.next
 st:h.get b=some (jB p j)
 rw:Rw h p C o [.bool true] v j.l
 n1:b≠p
 n2:b≠C
theorem JP.keep{h h':Heap}{b p C o:Nat}{v:AV}{j:Jb}(J:JP h b p C o v j)(f:Fr h h' []):JP h' b p C o v j:=
 ⟨Nat.lt_of_lt_of_le J.lt f.next,(f.keep b J.lt (by simp)).trans J.st,J.rw.keep f,J.n1,J.n2⟩
theorem JP.put{h:Heap}{b p C o:Nat}{v:AV}{j:Jb}(J:JP h b p C o v j)(j':Jb)(hl:j'.l=j.l):JP (h.set b (jB p j')) b p C o v j'∧Fr h (h.set b (jB p j')) [b]:=by
 have fr:Fr h (h.set b (jB p j')) [b]:=(Fr.refl _ _).set (by simp);have r:=J.rw;rw[←hl] at r;refine⟨⟨J.lt,ay,⟨r.lt,r.ne,(fr.keep p r.lt (by simpa using J.n1.symm)).trans r.st,r.row.keep fr (fun _=>by simpa using J.n2.symm)⟩,J.n1,J.n2⟩,fr⟩
section
variable {h:Heap} {b p C o:Nat} {v:AV} {j:Jb} {Q:AV→Heap→Prop}
theorem mw(J:JP h b p C o v j)(hQ:Q (.bool false) h):VD fs ms 108 [.ptr b 0] h Q:=by
 refine ak (af:=GU) true rfl (Nat.le_of_ble_eq_true rfl) ?_;conv=>whnf
 repeat(first|(refine⟨_,aT J.st rfl,?_⟩;conv=>whnf))
 exact hQ
theorem Er(J:JP h b p C o v j)(hQ:∀h',Fr h h' []→Q (.cq [op (j.l.headD s8),.bool (!j.l.isEmpty)]) h'):VD fs ms 101 [.ptr b 0] h Q:=by
 refine ak (af:=KS) true rfl (Nat.le_of_ble_eq_true rfl) ?_;conv=>whnf
 have J1:=J.keep ((Fr.refl h []).new (x:=.cells (op s8).cells true 0));refine mw J1 ?_;conv=>whnf
 repeat(first|(refine⟨_,aT J1.st rfl,?_⟩;conv=>whnf))
 refine Mr J1.rw fun h2 ey=>?_;conv=>whnf
 have g2:h2.get h.next=some (.cells (op s8).cells true 0):=(ey.keep _ (Nat.lt_succ_self _) (by simp)).trans aj;refine bW (bq g2 rfl (Nat.le_refl _) rfl) fun h1 e1=>?_;conv=>whnf
 refine dM (jV rfl (bR (vs:=(op (j.l.headD s8)).cells) (by rw[e1];exact ay) (Nat.le_refl _)) rfl) ?_;conv=>whnf
 exact hQ _ (by rw[e1];exact((((Fr.refl h []).new (x:=_)).trans (ey.wk (by simp))).ki (Nat.le_refl _)))
theorem Rx(J:JP h b p C o v j)(hQ:∀h' v' o',JP h' b p C o' v' (v8 j)→Fr h h' [b,p]→Q (.int .i64 (ur j)) h'):VD fs ms 80 [.ptr b 0] h Q:=by
 refine ak (af:=V2) true rfl (Nat.le_of_ble_eq_true rfl) ?_;conv=>whnf
 refine mw J ?_;conv=>whnf
 repeat(first|(refine⟨_,aT J.st rfl,?_⟩;conv=>whnf))
 refine PT J.rw fun h1 v1 o1 r1 dy=>?_;have g1:h1.get b=some (jB p j):=(dy.keep b J.lt (by simpa using J.n1)).trans J.st;have J1:JP h1 b p C o1 v1 {j with l:=qY j.l}:=⟨Nat.lt_of_lt_of_le J.lt dy.next,g1,r1,J.n1,J.n2⟩;obtain⟨J2,ey⟩:=J1.put (v8 j) rfl;have fr:=(dy.wk (cs:=[b,p]) (by simp)).trans (ey.wk (by simp));have hk:=hQ _ _ _ J2 fr;conv=>whnf
 repeat(first|(refine⟨_,aT g1 rfl,?_⟩;conv=>whnf))
 cases hg:j.g<;>cases he:rH j.l
 all_goals (
  simp only[ur,v8,hg,he] at hk;conv=>whnf
  refine⟨_,_,bq g1 rfl (Nat.le_of_ble_eq_true rfl) rfl,?_⟩;conv=>whnf
  exact hk)
theorem Rz(J:JP h b p C o v j)(hQ:∀h' v' o',JP h' b p C o' v' (nQ j)→Fr h h' [b,p,C]→Q (.int .i64 (mu j)) h'):VD fs ms 81 [.ptr b 0] h Q:=by
 refine ak (af:=V3) true rfl (Nat.le_of_ble_eq_true rfl) ?_;conv=>whnf
 refine mw J ?_;conv=>whnf
 repeat(first|(refine⟨_,aT J.st rfl,?_⟩;conv=>whnf))
 refine br (fun hc=>?_) (fun hc=>?_)<;>(try rw[hc])<;>(conv=>whnf)
 ·have e:mu j=250:=by rw[mu,if_pos hc]
  have hk:=hQ h v o (by rw[nQ,e];exact J) (Fr.refl _ _);rw[e] at hk;exact hk
 have h3:=hc;repeat(first|(refine⟨_,aT J.st rfl,?_⟩;conv=>whnf))
 refine P2 J.rw fun h1 v1 o1 r1 dy=>?_;have g1:h1.get b=some (jB p j):=(dy.keep b J.lt (by simp[J.n1,J.n2])).trans J.st;have J1:JP h1 b p C o1 v1 {j with l:=kH j.l}:=⟨Nat.lt_of_lt_of_le J.lt dy.next,g1,r1,J.n1,J.n2⟩;have dy:Fr h h1 [b,p,C]:=dy.wk (by simp);have e:mu j=if qv j.l then 0 else 250:=by rw[mu,if_neg (by rw[h3];simp)]
 cases hr:qv j.l with
 |false=>
  rw[hr] at e;have hl:kH j.l=j.l:=by
   revert hr;cases j.l with
   |nil=>intro _;rfl
   |cons x r=>intro hr;have hr:(x.k==1)=false:=hr;simp only[kH,hr];rfl
  rw[hl] at J1;have hk:=hQ _ _ _ (show JP h1 b p C o1 v1 (nQ j) by rw[nQ,e];exact J1) dy;rw[e] at hk;conv=>whnf
  exact hk
 |true=>
  rw[hr] at e;have e2:nQ j={j with l:=kH j.l,g:=true,n:=IntKind.i64.wrap (j.n+1),k:=if j.s !=0 then IntKind.i64.wrap (j.k+1) else j.k}:=by rw[nQ,e];rfl
  rw[e,e2] at hQ;conv=>whnf
  obtain⟨J2,ey⟩:=J1.put {j with l:=kH j.l,g:=true} rfl;refine⟨_,_,bq g1 rfl (Nat.le_of_ble_eq_true rfl) rfl,?_⟩;conv=>whnf
  repeat(first|(refine⟨_,aT J2.st rfl,?_⟩;conv=>whnf))
  obtain⟨J3,gx⟩:=J2.put {j with l:=kH j.l,g:=true,n:=IntKind.i64.wrap (j.n+1)} rfl;refine⟨_,_,bq J2.st rfl (Nat.le_of_ble_eq_true rfl) rfl,?_⟩;conv=>whnf
  repeat(first|(refine⟨_,aT J3.st rfl,?_⟩;conv=>whnf))
  have fr:Fr h _ [b,p,C]:=dy.trans ((ey.trans gx).wk (by simp));refine br (fun hc=>?_) (fun hc=>?_)<;>(try rw[hc])<;>(conv=>whnf)
  ·rw[if_pos hc] at hQ;repeat(first|(refine⟨_,aT J3.st rfl,?_⟩;conv=>whnf))
   obtain⟨J4,jL⟩:=J3.put {j with l:=kH j.l,g:=true,n:=IntKind.i64.wrap (j.n+1),k:=IntKind.i64.wrap (j.k+1)} rfl;refine⟨_,_,bq J3.st rfl (Nat.le_of_ble_eq_true rfl) rfl,?_⟩;conv=>whnf
   exact hQ _ _ _ J4 (fr.trans (jL.wk (by simp)))
  ·rw[if_neg (by rw[hc];simp)] at hQ;exact hQ _ _ _ J3 fr
theorem IZ{s:Int}(J:JP h b p C o v j)(hQ:∀h',JP h' b p C o v (mI j s)→Fr h h' [b]→Q (.int .i64 (gM j s)) h'):VD fs ms 85 [.ptr b 0,.int .i64 s] h Q:=by
 refine ak (af:=V6) true rfl (Nat.le_of_ble_eq_true rfl) ?_;have hno:∀e,gM j s=e→(e==0)=false→Q (.int .i64 e) h:=by
  intro e he h0;have hk:=hQ h (by rw[mI,he,h0];exact J) (Fr.refl _ _);rw[he] at hk;exact hk
 conv=>whnf
 refine mw J ?_;conv=>whnf
 refine br (fun hc=>?_) (fun hc=>?_)<;>(try rw[hc])<;>(conv=>whnf)
 ·exact hno 2 (by rw[gM,if_pos (by rw[hc];rfl)]) rfl
 have c1:=hc;refine br (fun hc=>?_) (fun hc=>?_)<;>(try rw[hc])<;>(conv=>whnf)
 ·exact hno 2 (by rw[gM,if_pos (by rw[hc];simp)]) rfl
 have c2:=hc;repeat(first|(refine⟨_,aT J.st rfl,?_⟩;conv=>whnf))
 have e0:gM j s=if j.s==3&&s==2 then 0 else if j.s !=0 then 130 else if s !=1&&decide (j.c≥j.t.f) then 170 else 0:=by rw[gM,if_neg (by rw[c1,c2];simp)]
 refine br (fun hc=>?_) (fun hc=>?_)<;>(try rw[hc])<;>(conv=>whnf)
 ·have h3:=hc;rw[hc,Bool.true_and] at e0;repeat(first|(refine⟨_,aT J.st rfl,?_⟩;conv=>whnf))
  refine br (fun hc=>?_) (fun hc=>?_)<;>(try rw[hc])<;>(conv=>whnf)
  ·have e:gM j s=0:=by rw[e0,if_pos hc]
   obtain⟨J2,ey⟩:=J.put {j with s:=s} rfl;have hk:=hQ _ (show JP _ b p C o v (mI j s) by rw[mI,e,h3,hc];exact J2) ey;rw[e] at hk;refine⟨_,_,bq J.st rfl (Nat.le_of_ble_eq_true rfl) rfl,?_⟩;conv=>whnf
   exact hk
  ·have hne:(j.s !=0)=true:=by have:=eq_of_beq h3;rw[this];rfl
   rw[if_neg (by rw[hc];simp),if_pos hne] at e0;repeat(first|(refine⟨_,aT J.st rfl,?_⟩;conv=>whnf))
   refine qt (hne) (fun hc=>?_)
   (try rw[hc])
   conv=>whnf
   exact hno 130 e0 rfl
 ·have h3:=hc;rw[hc,Bool.false_and,if_neg (by simp)] at e0;repeat(first|(refine⟨_,aT J.st rfl,?_⟩;conv=>whnf))
  refine br (fun hc=>?_) (fun hc=>?_)<;>(try rw[hc])<;>(conv=>whnf)
  ·rw[if_pos hc] at e0;exact hno 130 e0 rfl
  rw[if_neg (by rw[hc];simp)] at e0;have fin:gM j s=0→mI j s={j with s:=s,k:=0,c:=if s !=1 then IntKind.i64.wrap (j.c+1) else j.c}:=by
   intro e;simp[mI,e,h3]
  refine br (fun hc=>?_) (fun hc=>?_)<;>(try rw[hc])<;>(conv=>whnf)
  ·have h1:=hc;rw[hc,Bool.true_and] at e0;repeat(first|(refine⟨_,aT J.st rfl,?_⟩;conv=>whnf))
   refine br (fun hc=>?_) (fun hc=>?_)<;>(try rw[hc])<;>(conv=>whnf)
   ·rw[if_pos hc] at e0;exact hno 170 e0 rfl
   rw[if_neg (by rw[hc];simp)] at e0;have fin:=fin e0;rw[h1,if_pos rfl] at fin;rw[e0,fin] at hQ;refine qt (h1) (fun hc=>?_)
   (try rw[hc])
   conv=>whnf
   repeat(first|(refine⟨_,aT J.st rfl,?_⟩;conv=>whnf))
   obtain⟨J2,ey⟩:=J.put {j with c:=IntKind.i64.wrap (j.c+1)} rfl;refine⟨_,_,bq J.st rfl (Nat.le_of_ble_eq_true rfl) rfl,?_⟩;conv=>whnf
   obtain⟨J3,gx⟩:=J2.put {j with c:=IntKind.i64.wrap (j.c+1),s:=s} rfl;refine⟨_,_,bq J2.st rfl (Nat.le_of_ble_eq_true rfl) rfl,?_⟩;conv=>whnf
   obtain⟨J4,jL⟩:=J3.put {j with c:=IntKind.i64.wrap (j.c+1),s:=s,k:=0} rfl;refine⟨_,_,bq J3.st rfl (Nat.le_of_ble_eq_true rfl) rfl,?_⟩;conv=>whnf
   exact hQ _ J4 ((ey.trans gx).trans jL)
  ·have h1:=hc;rw[hc,Bool.false_and,if_neg (by simp)] at e0;have fin:=fin e0;rw[h1,if_neg (by simp)] at fin;rw[e0,fin] at hQ;refine nE (h1) (fun hc=>?_)
   (try rw[hc])
   conv=>whnf
   obtain⟨J3,gx⟩:=J.put {j with s:=s} rfl;refine⟨_,_,bq J.st rfl (Nat.le_of_ble_eq_true rfl) rfl,?_⟩;conv=>whnf
   obtain⟨J4,jL⟩:=J3.put {j with s:=s,k:=0} rfl;refine⟨_,_,bq J3.st rfl (Nat.le_of_ble_eq_true rfl) rfl,?_⟩;conv=>whnf
   exact hQ _ J4 (gx.trans jL)
theorem Ry(J:JP h b p C o v j)(hQ:∀h',JP h' b p C o v (sC j)→Fr h h' [b]→Q (.int .i64 (uu j)) h'):VD fs ms 88 [.ptr b 0] h Q:=by
 refine ak (af:=V9) true rfl (Nat.le_of_ble_eq_true rfl) ?_;conv=>whnf
 refine mw J ?_;conv=>whnf
 repeat(first|(refine⟨_,aT J.st rfl,?_⟩;conv=>whnf))
 refine br (fun hc=>?_) (fun hc=>?_)<;>(try rw[hc])<;>(conv=>whnf)
 ·rw[sC,uu,if_pos hc,if_pos hc] at hQ;exact hQ _ J (Fr.refl _ _)
 ·rw[sC,uu,if_neg (by rw[hc];simp),if_neg (by rw[hc];simp)] at hQ;obtain⟨J3,gx⟩:=J.put {j with s:=0} rfl;refine⟨_,_,bq J.st rfl (Nat.le_of_ble_eq_true rfl) rfl,?_⟩;conv=>whnf
  obtain⟨J4,jL⟩:=J3.put {j with s:=0,k:=0} rfl;refine⟨_,_,bq J3.st rfl (Nat.le_of_ble_eq_true rfl) rfl,?_⟩;conv=>whnf
  exact hQ _ J4 (gx.trans jL)
theorem Eo(J:JP h b p C o v j)(hQ:Q (.int .i64 j.e) h):VD fs ms 47 [.ptr b 0] h Q:=by
 refine ak (af:=Vt) true rfl (Nat.le_of_ble_eq_true rfl) ?_;conv=>whnf
 refine mw J ?_;conv=>whnf
 repeat(first|(refine⟨_,aT J.st rfl,?_⟩;conv=>whnf))
 exact hQ
theorem Uw(J:JP h b p C o v j)(hQ:Q (.cq [.int .i64 j.s,.int .i64 j.k]) h):VD fs ms 134 [.ptr b 0] h Q:=by
 refine ak (af:=GV) true rfl (Nat.le_of_ble_eq_true rfl) ?_;conv=>whnf
 refine mw J ?_;conv=>whnf
 repeat(first|(refine⟨_,aT J.st rfl,?_⟩;conv=>whnf))
 exact hQ
theorem Rv(J:JP h b p C o v j)(hQ:Q (.bool j.g) h):VD fs ms 51 [.ptr b 0] h Q:=by
 refine ak (af:=Vx) true rfl (Nat.le_of_ble_eq_true rfl) ?_;conv=>whnf
 refine mw J ?_;conv=>whnf
 repeat(first|(refine⟨_,aT J.st rfl,?_⟩;conv=>whnf))
 exact hQ
theorem Es{x:Op}(J:JP h b p C o v j)(hx:(x.k==1)=qv j.l)(hQ:∀h',Fr h h' []→Q (.bool (qJ j)) h'):VD fs ms 146 [.ptr b 0,op x] h Q:=by
 refine ak (af:=Lz) true rfl (Nat.le_of_ble_eq_true rfl) ?_;conv=>whnf
 have J1:=J.keep ((Fr.refl h []).new (x:=.cells (op x).cells true 0));have fr:Fr h (h.new (.cells (op x).cells true 0)) []:=(Fr.refl h []).new;repeat(first|(refine⟨_,aT J1.st rfl,?_⟩;conv=>whnf))
 rw[qJ] at hQ;refine br (fun hc=>?_) (fun hc=>?_)<;>(try rw[hc])<;>(conv=>whnf)
 ·rw[if_pos hc] at hQ;repeat(first|(refine⟨_,aT J1.st rfl,?_⟩;conv=>whnf))
  exact hQ _ fr
 ·rw[if_neg (by rw[hc];simp)] at hQ;refine br (fun hc=>?_) (fun hc=>?_)<;>(try rw[hc])<;>(conv=>whnf)
  ·rw[if_pos hc] at hQ;repeat(first|(refine⟨_,aT J1.st rfl,?_⟩;conv=>whnf))
   refine br (fun hc=>?_) (fun hc=>?_)<;>(try rw[hc])<;>(conv=>whnf)
   ·rw[hc,Bool.true_and,←hx] at hQ;refine⟨_,aT aj rfl,?_⟩;conv=>whnf
    exact hQ _ fr
   ·rw[hc,Bool.false_and] at hQ;exact hQ _ fr
  ·rw[if_neg (by rw[hc];simp)] at hQ;exact hQ _ fr
end
section
variable {h:Heap} {b p C o:Nat} {v:AV} {j:Jb} {Q:AV→Heap→Prop}
theorem I0{now:Int}(J:JP h b p C o v j)(hl:j.l.length≤64)(hQ:∀h',Fr h h' []→Q (.int .i64 (ru j now)) h'):VD fs ms 99 [.ptr b 0,.int .i64 now] h Q:=by
 refine ak (af:=Wk) true rfl (Nat.le_of_ble_eq_true rfl) ?_;conv=>whnf
 refine Er J fun h1 dy=>?_;rw[ru] at hQ;cases hj:j.l with
 |nil=>
  conv=>whnf
  refine bW (bq aj rfl (Nat.le_refl _) rfl) fun h2 e2=>?_;conv=>whnf
  rw[hj] at hQ;exact hQ _ (by rw[e2];exact((dy.new (x:=_)).ki dy.next))
 |cons x l=>
  conv=>whnf
  refine bW (bq aj rfl (Nat.le_refl _) rfl) fun h2 e2=>?_;have g2:h2.get h1.next=some (.cells (op x).cells true 0):=by rw[e2];exact ay
  have ey:Fr h h2 []:=by rw[e2];exact((dy.new (x:=_)).ki dy.next)
  have n2:h1.next<h2.next:=by rw[e2];exact Nat.lt_succ_self _
  clear e2;have J2:=J.keep ey;rw[if_neg (by rw[hj];simp)] at hQ;conv=>whnf
  repeat(first|(refine⟨_,aT J2.st rfl,?_⟩;conv=>whnf))
  refine br (fun hc=>?_) (fun hc=>?_)<;>(try rw[hc])<;>(conv=>whnf)
  ·rw[if_pos hc] at hQ;exact hQ _ ey
  rw[if_neg (by rw[hc];simp)] at hQ;repeat(first|(refine⟨_,aT J2.st rfl,?_⟩;conv=>whnf))
  refine br (fun hc=>?_) (fun hc=>?_)<;>(try rw[hc])<;>(conv=>whnf)
  ·rw[hc,Bool.true_and] at hQ;repeat(first|(refine⟨_,aT J2.st rfl,?_⟩;conv=>whnf))
   refine Mp J2.rw hl fun h3 gx=>?_;conv=>whnf
   refine br (fun hc=>?_) (fun hc=>?_)<;>(try rw[hc])<;>(conv=>whnf)
   ·rw[if_pos hc] at hQ;exact hQ _ (ey.trans gx)
   ·rw[if_neg (by rw[hc];simp)] at hQ;refine⟨_,Ads.u0 (n:=3) ((gx.keep _ n2 (by simp)).trans g2) (Nat.le_refl _),?_⟩;conv=>whnf
    refine Es (x:=x) (J2.keep gx) (by rw[hj];rfl) fun h4 jL=>?_;conv=>whnf
    refine br (fun hc=>?_) (fun hc=>?_)<;>(try rw[hc])<;>(conv=>whnf)
    ·rw[if_pos hc] at hQ;exact hQ _ ((ey.trans gx).trans jL)
    ·rw[if_neg (by rw[hc];simp)] at hQ;exact hQ _ ((ey.trans gx).trans jL)
  ·rw[hc,Bool.false_and,if_neg (by simp)] at hQ;refine⟨_,Ads.u0 (n:=3) g2 (Nat.le_refl _),?_⟩;conv=>whnf
   refine Es (x:=x) J2 (by rw[hj];rfl) fun h4 jL=>?_;conv=>whnf
   refine br (fun hc=>?_) (fun hc=>?_)<;>(try rw[hc])<;>(conv=>whnf)
   ·rw[if_pos hc] at hQ;exact hQ _ (ey.trans jL)
   ·rw[if_neg (by rw[hc];simp)] at hQ;exact hQ _ (ey.trans jL)
end
def PA(p:Nat)(j:Jb):dD:=.cells ((tk j.t).cells++[.ptr p 0,.int .i64 j.e,.int .i64 j.n,.int .i64 j.s,.int .i64 j.k,.int .i64 j.c,.bool j.g]) true 0
structure JR(h:Heap)(b p C o:Nat)(v:AV)(j:Jb):Prop where
 lt:b<h.next
 st:h.get b=some (PA p j)
 rw:Rw h p C o [] v j.l
 n1:b≠p
 n2:b≠C
theorem JR.keep{h h':Heap}{b p C o:Nat}{v:AV}{j:Jb}(J:JR h b p C o v j)(f:Fr h h' []):JR h' b p C o v j:=
 ⟨Nat.lt_of_lt_of_le J.lt f.next,(f.keep b J.lt (by simp)).trans J.st,J.rw.keep f,J.n1,J.n2⟩
theorem JR.put{h:Heap}{b p C o:Nat}{v:AV}{j:Jb}(J:JR h b p C o v j)(j':Jb)(hl:j'.l=j.l):JR (h.set b (PA p j')) b p C o v j'∧Fr h (h.set b (PA p j')) [b]:=by
 have fr:Fr h (h.set b (PA p j')) [b]:=(Fr.refl _ _).set (by simp);have r:=J.rw;rw[←hl] at r;exact⟨⟨J.lt,ay,⟨r.lt,r.ne,(fr.keep p r.lt (by simpa using J.n1.symm)).trans r.st,r.row.keep fr (fun _=>by simpa using J.n2.symm)⟩,J.n1,J.n2⟩,fr⟩
section
variable {h:Heap} {b p C o:Nat} {v:AV} {j:Jb} {Q:AV→Heap→Prop}
theorem JT(J:JR h b p C o v j)(hQ:∀h',Fr h h' []→Q (.cq [op (j.l.headD s8),.bool (!j.l.isEmpty)]) h'):VD fs ms 129 [.ptr b 0] h Q:=by
 refine ak (af:=Lj) true rfl (Nat.le_of_ble_eq_true rfl) ?_;conv=>whnf
 have J1:=J.keep ((Fr.refl h []).new (x:=.cells (op s8).cells true 0));repeat(first|(refine⟨_,aT J1.st rfl,?_⟩;conv=>whnf))
 refine B2 J1.rw fun h2 ey=>?_;conv=>whnf
 have g2:h2.get h.next=some (.cells (op s8).cells true 0):=(ey.keep _ (Nat.lt_succ_self _) (by simp)).trans aj;refine bW (bq g2 rfl (Nat.le_refl _) rfl) fun h1 e1=>?_;conv=>whnf
 refine dM (jV rfl (bR (vs:=(op (j.l.headD s8)).cells) (by rw[e1];exact ay) (Nat.le_refl _)) rfl) ?_;conv=>whnf
 exact hQ _ (by rw[e1];exact((((Fr.refl h []).new (x:=_)).trans (ey.wk (by simp))).ki (Nat.le_refl _)))
theorem Ol(J:JR h b p C o v j)(hQ:∀h' v' o',JR h' b p C o' v' (v8 j)→Fr h h' [b,p]→Q (.int .i64 (ur j)) h'):VD fs ms 119 [.ptr b 0] h Q:=by
 refine ak (af:=K9) true rfl (Nat.le_of_ble_eq_true rfl) ?_;conv=>whnf
 repeat(first|(refine⟨_,aT J.st rfl,?_⟩;conv=>whnf))
 refine Ov J.rw fun h1 v1 o1 r1 dy=>?_;have g1:h1.get b=some (PA p j):=(dy.keep b J.lt (by simpa using J.n1)).trans J.st;have J1:JR h1 b p C o1 v1 {j with l:=qY j.l}:=⟨Nat.lt_of_lt_of_le J.lt dy.next,g1,r1,J.n1,J.n2⟩;cases he:rH j.l with
 |true=>
  have hk:=hQ _ _ _ (show JR h1 b p C o1 v1 (v8 j) by simp only[v8,he,Bool.not_true,Bool.or_false];exact J1) (dy.wk (by simp));simp only[ur,he] at hk;conv=>whnf
  exact hk
 |false=>
  obtain⟨J2,ey⟩:=J1.put {j with l:=qY j.l,g:=true} rfl;have hk:=hQ _ _ _ (show JR _ b p C o1 v1 (v8 j) by simp only[v8,he,Bool.not_false,Bool.or_true];exact J2) ((dy.wk (by simp)).trans (ey.wk (by simp)));simp only[ur,he] at hk;conv=>whnf
  refine⟨_,_,bq g1 rfl (Nat.le_of_ble_eq_true rfl) rfl,?_⟩;conv=>whnf
  exact hk
theorem Oo(J:JR h b p C o v j)(hQ:∀h' v' o',JR h' b p C o' v' (nQ j)→Fr h h' [b,p,C]→Q (.int .i64 (mu j)) h'):VD fs ms 120 [.ptr b 0] h Q:=by
 refine ak (af:=La) true rfl (Nat.le_of_ble_eq_true rfl) ?_;conv=>whnf
 repeat(first|(refine⟨_,aT J.st rfl,?_⟩;conv=>whnf))
 refine br (fun hc=>?_) (fun hc=>?_)<;>(try rw[hc])<;>(conv=>whnf)
 ·have e:mu j=250:=by rw[mu,if_pos hc]
  have hk:=hQ h v o (by rw[nQ,e];exact J) (Fr.refl _ _);rw[e] at hk;exact hk
 have h3:=hc;repeat(first|(refine⟨_,aT J.st rfl,?_⟩;conv=>whnf))
 refine Oy J.rw fun h1 v1 o1 r1 dy=>?_;have g1:h1.get b=some (PA p j):=(dy.keep b J.lt (by simp[J.n1,J.n2])).trans J.st;have J1:JR h1 b p C o1 v1 {j with l:=kH j.l}:=⟨Nat.lt_of_lt_of_le J.lt dy.next,g1,r1,J.n1,J.n2⟩;have dy:Fr h h1 [b,p,C]:=dy.wk (by simp);have e:mu j=if qv j.l then 0 else 250:=by rw[mu,if_neg (by rw[h3];simp)]
 cases hr:qv j.l with
 |false=>
  rw[hr] at e;have hl:kH j.l=j.l:=by
   revert hr;cases j.l with
   |nil=>intro _;rfl
   |cons x r=>intro hr;have hr:(x.k==1)=false:=hr;simp only[kH,hr];rfl
  rw[hl] at J1;have hk:=hQ _ _ _ (show JR h1 b p C o1 v1 (nQ j) by rw[nQ,e];exact J1) dy;rw[e] at hk;conv=>whnf
  exact hk
 |true=>
  rw[hr] at e;have e2:nQ j={j with l:=kH j.l,g:=true,n:=IntKind.i64.wrap (j.n+1),k:=if j.s !=0 then IntKind.i64.wrap (j.k+1) else j.k}:=by rw[nQ,e];rfl
  rw[e,e2] at hQ;conv=>whnf
  obtain⟨J2,ey⟩:=J1.put {j with l:=kH j.l,g:=true} rfl;refine⟨_,_,bq g1 rfl (Nat.le_of_ble_eq_true rfl) rfl,?_⟩;conv=>whnf
  repeat(first|(refine⟨_,aT J2.st rfl,?_⟩;conv=>whnf))
  obtain⟨J3,gx⟩:=J2.put {j with l:=kH j.l,g:=true,n:=IntKind.i64.wrap (j.n+1)} rfl;refine⟨_,_,bq J2.st rfl (Nat.le_of_ble_eq_true rfl) rfl,?_⟩;conv=>whnf
  repeat(first|(refine⟨_,aT J3.st rfl,?_⟩;conv=>whnf))
  have fr:Fr h _ [b,p,C]:=dy.trans ((ey.trans gx).wk (by simp));refine br (fun hc=>?_) (fun hc=>?_)<;>(try rw[hc])<;>(conv=>whnf)
  ·rw[if_pos hc] at hQ;repeat(first|(refine⟨_,aT J3.st rfl,?_⟩;conv=>whnf))
   obtain⟨J4,jL⟩:=J3.put {j with l:=kH j.l,g:=true,n:=IntKind.i64.wrap (j.n+1),k:=IntKind.i64.wrap (j.k+1)} rfl;refine⟨_,_,bq J3.st rfl (Nat.le_of_ble_eq_true rfl) rfl,?_⟩;conv=>whnf
   exact hQ _ _ _ J4 (fr.trans (jL.wk (by simp)))
  ·rw[if_neg (by rw[hc];simp)] at hQ;exact hQ _ _ _ J3 fr
theorem EP(J:JR h b p C o v j)(hQ:∀h',JR h' b p C o v (sC j)→Fr h h' [b]→Q (.int .i64 (uu j)) h'):VD fs ms 125 [.ptr b 0] h Q:=by
 refine ak (af:=Lf) true rfl (Nat.le_of_ble_eq_true rfl) ?_;conv=>whnf
 repeat(first|(refine⟨_,aT J.st rfl,?_⟩;conv=>whnf))
 refine br (fun hc=>?_) (fun hc=>?_)<;>(try rw[hc])<;>(conv=>whnf)
 ·rw[sC,uu,if_pos hc,if_pos hc] at hQ;exact hQ _ J (Fr.refl _ _)
 ·rw[sC,uu,if_neg (by rw[hc];simp),if_neg (by rw[hc];simp)] at hQ;obtain⟨J3,gx⟩:=J.put {j with s:=0} rfl;refine⟨_,_,bq J.st rfl (Nat.le_of_ble_eq_true rfl) rfl,?_⟩;conv=>whnf
  obtain⟨J4,jL⟩:=J3.put {j with s:=0,k:=0} rfl;refine⟨_,_,bq J3.st rfl (Nat.le_of_ble_eq_true rfl) rfl,?_⟩;conv=>whnf
  exact hQ _ J4 (gx.trans jL)
end
section
variable {h:Heap} {b p C o:Nat} {v:AV} {j:Jb} {Q:AV→Heap→Prop}
theorem z9{s:Int}(J:JR h b p C o v j)(hQ:∀h',JR h' b p C o v (mI j s)→Fr h h' [b]→Q (.int .i64 (gM j s)) h'):VD fs ms 122 [.ptr b 0,.int .i64 s] h Q:=by
 refine ak (af:=Lc) true rfl (Nat.le_of_ble_eq_true rfl) ?_;have hno:∀e,gM j s=e→(e==0)=false→Q (.int .i64 e) h:=by
  intro e he h0;have hk:=hQ h (by rw[mI,he,h0];exact J) (Fr.refl _ _);rw[he] at hk;exact hk
 conv=>whnf
 cases c1:decide (s<1) with
 |true=>
  conv=>whnf
  exact hno 2 (by rw[gM,if_pos (by rw[c1];rfl)]) rfl
 |false=>
 conv=>whnf
 refine br (fun hc=>?_) (fun hc=>?_)<;>(try rw[hc])<;>(conv=>whnf)
 ·exact hno 2 (by rw[gM,if_pos (by rw[hc];simp)]) rfl
 have c2:=hc;repeat(first|(refine⟨_,aT J.st rfl,?_⟩;conv=>whnf))
 have e0:gM j s=if j.s==3&&s==2 then 0 else if j.s !=0 then 130 else if s !=1&&decide (j.c≥j.t.f) then 170 else 0:=by rw[gM,if_neg (by rw[c1,c2];simp)]
 cases h3:(j.s==3) with
 |true=>
  rw[h3,Bool.true_and] at e0;conv=>whnf
  refine br (fun hc=>?_) (fun hc=>?_)<;>(try rw[hc])<;>(conv=>whnf)
  ·have e:gM j s=0:=by rw[e0,if_pos hc]
   obtain⟨J2,ey⟩:=J.put {j with s:=s} rfl;have hk:=hQ _ (show JR _ b p C o v (mI j s) by rw[mI,e,h3,hc];exact J2) ey;rw[e] at hk;refine⟨_,_,bq J.st rfl (Nat.le_of_ble_eq_true rfl) rfl,?_⟩;conv=>whnf
   exact hk
  ·have hne:(j.s !=0)=true:=by have:=eq_of_beq h3;rw[this];rfl
   rw[if_neg (by rw[hc];simp),if_pos hne] at e0;repeat(first|(refine⟨_,aT J.st rfl,?_⟩;conv=>whnf))
   refine qt (hne) (fun hc=>?_)
   (try rw[hc])
   conv=>whnf
   exact hno 130 e0 rfl
 |false=>
  rw[h3,Bool.false_and,if_neg (by simp)] at e0;conv=>whnf
  repeat(first|(refine⟨_,aT J.st rfl,?_⟩;conv=>whnf))
  refine br (fun hc=>?_) (fun hc=>?_)<;>(try rw[hc])<;>(conv=>whnf)
  ·rw[if_pos hc] at e0;exact hno 130 e0 rfl
  rw[if_neg (by rw[hc];simp)] at e0;have fin:gM j s=0→mI j s={j with s:=s,k:=0,c:=if s !=1 then IntKind.i64.wrap (j.c+1) else j.c}:=by
   intro e;simp[mI,e,h3]
  refine br (fun hc=>?_) (fun hc=>?_)<;>(try rw[hc])<;>(conv=>whnf)
  ·have h1:=hc;rw[hc,Bool.true_and] at e0;repeat(first|(refine⟨_,aT J.st rfl,?_⟩;conv=>whnf))
   refine br (fun hc=>?_) (fun hc=>?_)<;>(try rw[hc])<;>(conv=>whnf)
   ·rw[if_pos hc] at e0;exact hno 170 e0 rfl
   rw[if_neg (by rw[hc];simp)] at e0;have fin:=fin e0;rw[h1,if_pos rfl] at fin;rw[e0,fin] at hQ;repeat(first|(refine⟨_,aT J.st rfl,?_⟩;conv=>whnf))
   obtain⟨J2,ey⟩:=J.put {j with c:=IntKind.i64.wrap (j.c+1)} rfl;refine⟨_,_,bq J.st rfl (Nat.le_of_ble_eq_true rfl) rfl,?_⟩;conv=>whnf
   obtain⟨J3,gx⟩:=J2.put {j with c:=IntKind.i64.wrap (j.c+1),s:=s} rfl;refine⟨_,_,bq J2.st rfl (Nat.le_of_ble_eq_true rfl) rfl,?_⟩;conv=>whnf
   obtain⟨J4,jL⟩:=J3.put {j with c:=IntKind.i64.wrap (j.c+1),s:=s,k:=0} rfl;refine⟨_,_,bq J3.st rfl (Nat.le_of_ble_eq_true rfl) rfl,?_⟩;conv=>whnf
   exact hQ _ J4 ((ey.trans gx).trans jL)
  ·have h1:=hc;rw[hc,Bool.false_and,if_neg (by simp)] at e0;have fin:=fin e0;rw[h1,if_neg (by simp)] at fin;rw[e0,fin] at hQ;obtain⟨J3,gx⟩:=J.put {j with s:=s} rfl;refine⟨_,_,bq J.st rfl (Nat.le_of_ble_eq_true rfl) rfl,?_⟩;conv=>whnf
   obtain⟨J4,jL⟩:=J3.put {j with s:=s,k:=0} rfl;refine⟨_,_,bq J3.st rfl (Nat.le_of_ble_eq_true rfl) rfl,?_⟩;conv=>whnf
   exact hQ _ J4 (gx.trans jL)
theorem Gt{now:Int}(J:JR h b p C o v j)(hl:j.l.length≤64)(hQ:∀h',Fr h h' []→Q (.int .i64 (ru j now)) h'):VD fs ms 130 [.ptr b 0,.int .i64 now] h Q:=by
 refine ak (af:=Lk) true rfl (Nat.le_of_ble_eq_true rfl) ?_;conv=>whnf
 repeat(first|(refine⟨_,aT J.st rfl,?_⟩;conv=>whnf))
 refine B2 J.rw fun h1 dy=>?_;rw[ru] at hQ;cases hj:j.l with
 |nil=>
  conv=>whnf
  refine bW (bq aj rfl (Nat.le_refl _) rfl) fun h2 e2=>?_;conv=>whnf
  rw[hj] at hQ;exact hQ _ (by rw[e2];exact((dy.new (x:=_)).ki dy.next))
 |cons x l=>
  conv=>whnf
  refine bW (bq aj rfl (Nat.le_refl _) rfl) fun h2 e2=>?_;have g2:h2.get h1.next=some (.cells (op x).cells true 0):=by rw[e2];exact ay
  have ey:Fr h h2 []:=by rw[e2];exact((dy.new (x:=_)).ki dy.next)
  clear e2;have J2:=J.keep ey;have hx:(x.k==1)=qv j.l:=by rw[hj];rfl
  rw[if_neg (by rw[hj];simp)] at hQ;conv=>whnf
  repeat(first|(refine⟨_,aT J2.st rfl,?_⟩;conv=>whnf))
  refine br (fun hc=>?_) (fun hc=>?_)<;>(try rw[hc])<;>(conv=>whnf)
  ·rw[if_pos hc] at hQ;exact hQ _ ey
  rw[if_neg (by rw[hc];simp)] at hQ;have hq:(decide (j.n≥j.t.w)&&decide (m8 j.l>0))=false→Q (.int .i64 (if qJ j then 2 else 0)) h2:=by
   intro e;have:=hQ _ ey;rw[e] at this;exact this
  repeat(first|(refine⟨_,aT J2.st rfl,?_⟩;conv=>whnf))
  cases hw:decide (j.n≥j.t.w)
  rotate_left
  ·conv=>whnf
   repeat(first|(refine⟨_,aT J2.st rfl,?_⟩;conv=>whnf))
   refine JU J2.rw hl ?_;conv=>whnf
   refine br (fun hc=>?_) (fun hc=>?_)<;>(try rw[hc])<;>(conv=>whnf)
   ·rw[hw,hc] at hQ;exact hQ _ ey
   have hq:=hq (by rw[hw,hc];rfl);repeat(first|(refine⟨_,aT J2.st rfl,?_⟩;conv=>whnf))
   cases uO:(j.s==2) with
   |true=>
    have rR:(j.s==1)=false:=by have:=eq_of_beq uO;rw[this];rfl
    rw[qJ,if_pos uO] at hq;conv=>whnf
    repeat(first|(refine⟨_,aT J2.st rfl,?_⟩;conv=>whnf))
    refine br (fun hc=>?_) (fun hc=>?_)<;>(try rw[hc])<;>(conv=>whnf)
    ·rw[if_pos hc] at hq;exact hq
    ·rw[if_neg (by rw[hc];simp)] at hq;repeat(first|(refine⟨_,aT J2.st rfl,?_⟩;conv=>whnf))
     rw[rR];conv=>whnf
     exact hq
   |false=>
    have ej:qJ j=if j.s==1 then decide (j.k≥j.t.b)&&qv j.l else false:=by rw[qJ,if_neg (by rw[uO];simp)]
    rw[ej] at hq;conv=>whnf
    repeat(first|(refine⟨_,aT J2.st rfl,?_⟩;conv=>whnf))
    cases rR:(j.s==1) with
    |true=>
     rw[if_pos rR,←hx] at hq;conv=>whnf
     repeat(first|(refine⟨_,aT J2.st rfl,?_⟩;conv=>whnf))
     cases hk:decide (j.k≥j.t.b) with
     |true=>
      rw[hk,Bool.true_and] at hq;conv=>whnf
      refine⟨_,aT g2 rfl,?_⟩;conv=>whnf
      refine br (fun hc=>?_) (fun hc=>?_)<;>(try rw[hc])<;>(conv=>whnf)
      ·rw[if_pos hc] at hq;exact hq
      ·rw[if_neg (by rw[hc];simp)] at hq;exact hq
     |false=>
      rw[hk,Bool.false_and] at hq;conv=>whnf
      exact hq
    |false=>
     rw[rR] at hq;conv=>whnf
     exact hq
  ·have hq:=hq (by rw[hw];rfl);conv=>whnf
   repeat(first|(refine⟨_,aT J2.st rfl,?_⟩;conv=>whnf))
   cases uO:(j.s==2) with
   |true=>
    have rR:(j.s==1)=false:=by have:=eq_of_beq uO;rw[this];rfl
    rw[qJ,if_pos uO] at hq;conv=>whnf
    repeat(first|(refine⟨_,aT J2.st rfl,?_⟩;conv=>whnf))
    refine br (fun hc=>?_) (fun hc=>?_)<;>(try rw[hc])<;>(conv=>whnf)
    ·rw[if_pos hc] at hq;exact hq
    ·rw[if_neg (by rw[hc];simp)] at hq;repeat(first|(refine⟨_,aT J2.st rfl,?_⟩;conv=>whnf))
     rw[rR];conv=>whnf
     exact hq
   |false=>
    have ej:qJ j=if j.s==1 then decide (j.k≥j.t.b)&&qv j.l else false:=by rw[qJ,if_neg (by rw[uO];simp)]
    rw[ej] at hq;conv=>whnf
    repeat(first|(refine⟨_,aT J2.st rfl,?_⟩;conv=>whnf))
    cases rR:(j.s==1) with
    |true=>
     rw[if_pos rR,←hx] at hq;conv=>whnf
     repeat(first|(refine⟨_,aT J2.st rfl,?_⟩;conv=>whnf))
     cases hk:decide (j.k≥j.t.b) with
     |true=>
      rw[hk,Bool.true_and] at hq;conv=>whnf
      refine⟨_,aT g2 rfl,?_⟩;conv=>whnf
      refine br (fun hc=>?_) (fun hc=>?_)<;>(try rw[hc])<;>(conv=>whnf)
      ·rw[if_pos hc] at hq;exact hq
      ·rw[if_neg (by rw[hc];simp)] at hq;exact hq
     |false=>
      rw[hk,Bool.false_and] at hq;conv=>whnf
      exact hq
    |false=>
     rw[rR] at hq;conv=>whnf
     exact hq
end
theorem Rw.any{h:Heap}{b C C' o:Nat}{tl:List AV}{v:AV}{l:List Op}(r:Rw h b C o tl v l)(hc:l≠[]→C'=C):Rw h b C' o tl v l:=by
 cases l with
 |nil=>exact⟨r.lt,fun h=>(h rfl).elim,r.st,r.row⟩
 |cons x l=>rw[hc (by simp)];exact r
def fU(t:Tk)(l:List Op)(a:Int):Int:=if !cj [t]||decide (a<0) then 2 else if decide (a>1099511627776) then 10 else lQ l
def jG(t:Tk)(l:List Op)(a:Int):Jb:=⟨t,l,IntKind.i64.wrap (a+t.d),0,0,0,0,false⟩
section
variable {h:Heap} {Q:AV→Heap→Prop} {t:Tk} {l:List Op} {a:Int} {k:Nat}
theorem Qm(t:Tk):dA [t] [0]=if cj [t] then 0 else 2:=by
 have:mA 0=false:=by decide
 cases c:cj [t]<;>simp[dA,c,this]
theorem Om(hl:l.length<2^62)(h0:fU t l a≠0→∀h',Fr h h' []→Q (.cq [.aQ,.int .i64 (fU t l a)]) h')
  (h1:fU t l a=0→∀h' b p C v,JR h' b p C 0 v (jG t l a)→h.next≤b→h.next≤p→h.next≤C→(l≠[]→C<h'.next)→Fr h h' []→Q (.cq [.ptr b 0,.int .i64 0]) h'):VD fs ms 115 [tk t,.fz k (ops l),.int .i64 a] h Q:=by
 refine ak (af:=K4) true rfl (Nat.le_of_ble_eq_true rfl) ?_;conv=>whnf
 refine⟨_,Ads.u0 (n:=8) aj (Nat.le_refl _),?_⟩;conv=>whnf
 have lq:Fr h ((h.new (.cells (tk t).cells true 0)).new (.cells (tk t).cells true 0)) []:=((Fr.refl h []).new (x:=_)).new (x:=_);have g0:((h.new (.cells (tk t).cells true 0)).new (.cells (tk t).cells true 0)).get h.next=some (.cells (tk t).cells true 0):=by
  rw[aA (Nat.lt_succ_self _)];exact aj
 have n0:h.next<((h.new (.cells (tk t).cells true 0)).new (.cells (tk t).cells true 0)).next:=Nat.lt_succ_of_lt (Nat.lt_succ_self _)
 refine fQ (B3 2 [t] (by simp)) rfl (.cons (.row (s:=8) trivial aj rfl rfl rfl (Nat.le_refl _) (by omega) (fun _=>rfl) (fun _=>rfl) (bF _)) .nil) ?_;have e1:fU t l a=if !cj [t]||decide (a<0) then 2 else if decide (a>1099511627776) then 10 else lQ l:=rfl
 cases c1:cj [t] with
 |false=>
  rw[c1] at e1;rw[e1] at h0;conv=>whnf
  exact h0 (by simp) _ lq
 |true=>
 rw[c1] at e1;conv=>whnf
 refine br (fun hc=>?_) (fun hc=>?_)<;>(try rw[hc])<;>(conv=>whnf)
 ·rw[hc] at e1;rw[e1] at h0;exact h0 (by simp) _ lq
 rw[hc,Bool.not_true,Bool.false_or,if_neg (by simp)] at e1;refine br (fun hc=>?_) (fun hc=>?_)<;>(try rw[hc])<;>(conv=>whnf)
 ·rw[if_pos hc] at e1;rw[e1] at h0;exact h0 (by simp) _ lq
 rw[if_neg (by rw[hc];simp)] at e1;rw[e1] at h0 h1;refine Ow hl (fun hn h2 fr=>?_) (fun hz h2 p C v r hp hC hlt fr=>?_)
 ·conv=>whnf
  refine qt ((by simpa using hn)) (fun hc=>?_)
  (try rw[hc])
  conv=>whnf
  exact h0 hn _ (lq.trans fr)
 ·conv=>whnf
  refine⟨_,Ads.u0 (n:=8) ((fr.keep _ n0 (by simp)).trans g0) (Nat.le_refl _),?_⟩;conv=>whnf
  refine⟨_,aT ((fr.keep _ n0 (by simp)).trans g0) rfl,?_⟩;conv=>whnf
  have gx:Fr h (h2.new (PA p (jG t l a))) []:=(lq.trans fr).new;have r3:Rw (h2.new (PA p (jG t l a))) p (if l=[] then h2.next+1 else C) 0 [] v l:=(r.keep ((Fr.refl _ []).new)).any (fun hn=>if_neg hn);refine h1 hz _ h2.next p _ v ⟨Nat.lt_succ_self _,aj,r3,?_,?_⟩ ?_ ?_ ?_ ?_ gx
  ·have:=r.lt;omega
  ·by_cases hn:l=[]
   ·rw[if_pos hn];omega
   ·rw[if_neg hn];have:=hlt hn;omega
  ·exact(lq.trans fr).next
  ·exact Nat.le_trans lq.next hp
  ·have:=(lq.trans fr).next
   have:=Nat.le_trans lq.next hC;by_cases hn:l=[]
   ·rw[if_pos hn];omega
   ·rw[if_neg hn];omega
  ·intro hn;rw[if_neg hn];exact Nat.lt_succ_of_lt (hlt hn)
theorem I1(hk:k=3→l=[])(hl:l.length<2^62)(h0:fU t l a≠0→∀h',Fr h h' []→Q (.cq [.aQ,.int .i64 (fU t l a)]) h')
  (h1:fU t l a=0→∀h' b p C v,JP h' b p C 0 v (jG t l a)→h.next≤b→h.next≤p→h.next≤C→(l≠[]→C<h'.next)→Fr h h' []→Q (.cq [.ptr b 0,.int .i64 0]) h'):VD fs ms 95 [tk t,.fz k (ops l),.int .i64 a] h Q:=by
 refine ak (af:=Wg) true rfl (Nat.le_of_ble_eq_true rfl) ?_;conv=>whnf
 refine⟨_,Ads.u0 (n:=8) aj (Nat.le_refl _),?_⟩;conv=>whnf
 let H2:=(h.new (.cells (tk t).cells true 0)).new (.cells (tk t).cells true 0)
 let H3:=H2.new (.cells [.int .i64 0] true 0)
 have lq:Fr h H3 []:=(((Fr.refl h []).new (x:=_)).new (x:=_)).new (x:=_);have n1:h.next<H2.next:=Nat.lt_succ_of_lt (Nat.lt_succ_self _);have n0:h.next<H3.next:=Nat.lt_succ_of_lt n1;have g0:H3.get h.next=some (.cells (tk t).cells true 0):=by
  rw[aA n1,aA (Nat.lt_succ_self _)];exact aj
 have g1:H3.get (h.next+1)=some (.cells (tk t).cells true 0):=by
  rw[aA (Nat.lt_succ_self _)];exact aj
 refine fQ (DX 2 2 [t] [0] (by simp) (by simp)) rfl (.cons (.row (s:=8) trivial g1 rfl rfl rfl (Nat.le_refl _) (by omega) (fun _=>rfl) (fun _=>rfl) (bF _)) (.cons (.row (s:=1) trivial (aj (h:=H2)) rfl rfl rfl (Nat.le_refl _) (by omega) (fun _=>rfl) (fun _=>rfl) (bS _)) .nil)) ?_;rw[Qm];have e1:fU t l a=if !cj [t]||decide (a<0) then 2 else if decide (a>1099511627776) then 10 else lQ l:=rfl
 cases c1:cj [t] with
 |false=>
  rw[c1] at e1;rw[e1] at h0;conv=>whnf
  exact h0 (by simp) _ lq
 |true=>
 rw[c1] at e1;conv=>whnf
 refine br (fun hc=>?_) (fun hc=>?_)<;>(try rw[hc])<;>(conv=>whnf)
 ·rw[hc] at e1;rw[e1] at h0;exact h0 (by simp) _ lq
 rw[hc,Bool.not_true,Bool.false_or,if_neg (by simp)] at e1;refine br (fun hc=>?_) (fun hc=>?_)<;>(try rw[hc])<;>(conv=>whnf)
 ·rw[if_pos hc] at e1;rw[e1] at h0;exact h0 (by simp) _ lq
 rw[if_neg (by rw[hc];simp)] at e1;rw[e1] at h0 h1;refine PW hk hl (fun hn h2 fr=>?_) (fun hz h2 p C v r hp hC hlt fr=>?_)
 ·conv=>whnf
  refine qt ((by simpa using hn)) (fun hc=>?_)
  (try rw[hc])
  conv=>whnf
  exact h0 hn _ (lq.trans fr)
 ·conv=>whnf
  refine⟨_,Ads.u0 (n:=8) ((fr.keep _ n0 (by simp)).trans g0) (Nat.le_refl _),?_⟩;conv=>whnf
  refine⟨_,aT ((fr.keep _ n0 (by simp)).trans g0) rfl,?_⟩;conv=>whnf
  have gx:Fr h (h2.new (jB p (jG t l a))) []:=(lq.trans fr).new;have r3:Rw (h2.new (jB p (jG t l a))) p (if l=[] then h2.next+1 else C) 0 [.bool true] v l:=(r.keep ((Fr.refl _ []).new)).any (fun hn=>if_neg hn);refine h1 hz _ h2.next p _ v ⟨Nat.lt_succ_self _,aj,r3,?_,?_⟩ ?_ ?_ ?_ ?_ gx
  ·have:=r.lt;omega
  ·by_cases hn:l=[]
   ·rw[if_pos hn];omega
   ·rw[if_neg hn];have:=hlt hn;omega
  ·exact(lq.trans fr).next
  ·exact Nat.le_trans lq.next hp
  ·have:=(lq.trans fr).next
   have:=Nat.le_trans lq.next hC;by_cases hn:l=[]
   ·rw[if_pos hn];omega
   ·rw[if_neg hn];omega
  ·intro hn;rw[if_neg hn];exact Nat.lt_succ_of_lt (hlt hn)
end
end Ir
end Go.Proofs.YtnlcabhfkpafmaaGreat
