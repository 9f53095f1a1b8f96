/-
  Rows of jobs as cells.
-/
import Derived.Test.YtecdcefacdodgaaVLkQ
import Derived.Test.YtecdcefacdodgaaZA
set_option maxRecDepth 100000
set_option linter.unusedSimpArgs false
set_option linter.unusedVariables false
namespace Go.Proofs.Ytecdcefacdodgaa
open Go Ads
namespace Ir
open Edf
theorem N2(x:Pt):(AV.fp (pt x).cells 0).cl=true:=by simp[AV.cl,bn,pt,AV.cells,bJ]
def jb(x:Int×Int):AV:=.agg [.int .i64 x.1,.int .i64 x.2]
def Qz(J:List (Int×Int)):List AV:=J.map jb
theorem N1(J:List (Int×Int)):bn (Qz J)=true:=pW (enc:=jb) (fun _=>rfl) J
theorem wR(J:List (Int×Int)):aO 2 (Qz J)=true:=iy (enc:=jb) (fun _=>rfl) J
theorem Mq(J:List (Int×Int)):(Qz J).length=J.length:=List.length_map ..
def jc(J:List (Int×Int)):List AV:=ah (Qz J)
theorem NF(J:List (Int×Int)):bn (jc J)=true:=gD (N1 J)
theorem vY(J:List (Int×Int)):(jc J).length=J.length*2:=by rw[jc,kM (wR J),Mq]
theorem Mj{J:List (Int×Int)}{i:Nat}(h:i<J.length):(jc J)[i*2+0]?=some (.int .i64 (jE J i)):=by
 rw[E4 h];exact rW (wR J) (x:=jb J[i]) (by rw[Qz,List.getElem?_map,List.getElem?_eq_getElem h];rfl) rfl
theorem Pr{J:List (Int×Int)}{i:Nat}(h:i<J.length):(jc J)[i*2+1]?=some (.int .i64 (jL J i)):=by
 rw[uv h];exact rW (wR J) (x:=jb J[i]) (by rw[Qz,List.getElem?_map,List.getElem?_eq_getElem h];rfl) rfl
theorem DH:∀(J:List (Int×Int)) (i:Nat) (_:i<J.length) (x:Int×Int),Heap.splice (jc J) (i*2) [.int .i64 x.1,.int .i64 x.2]=jc (J.set i x)
 |y::J,0,_,x=>by
  show AV.int .i64 x.1::AV.int .i64 x.2::Heap.splice (jc J) 0 []=AV.int .i64 x.1::AV.int .i64 x.2::jc J;rw[fc]
 |y::J,i+1,h,x=>by
  have ih:=DH J i (by simpa using h) x;show Heap.splice (AV.int .i64 y.1::AV.int .i64 y.2::jc J) ((i+1)*2) _=AV.int .i64 y.1::AV.int .i64 y.2::jc (J.set i x);rw[show(i+1)*2=i*2+1+1 by omega,←ih];rfl
theorem uE{α:Type}:∀(C:List α) (o:Nat) (a b:α),o+1<C.length→Heap.splice C o [a,b]=(C.set o a).set (o+1) b
 |[],o,a,b,h=>by simp at h
 |[c],0,a,b,h=>by simp at h
 |c::d::C,0,a,b,_=>by
  show a::b::Heap.splice C 0 []=_;rw[fc];rfl
 |c::C,o+1,a,b,h=>by
  show c::Heap.splice C o [a,b]=_;rw[uE C o a b (by simpa using h)];rfl
theorem Dc{md:Int}{lt:List Int}{d:Nat}(h:lt≠[]):extra md lt d=(lt.getD (d%lt.length) 0)%md:=by
 cases lt with
 |nil=>exact absurd rfl h
 |cons a r=>rfl
theorem Mk{J:List (Int×Int)}{i:Nat}(h:i<J.length)(n:Int):Heap.splice (jc J) (i*2+1) [.int .i64 n]=jc (J.set i (jE J i,n)):=by
 rw[kU _ _ _ (by rw[vY];omega),E4 h];have h2:=DH J i h (J[i].1,n);rw[←h2];have h3:=uE (jc J) (i*2) (.int .i64 J[i].1) (.int .i64 n) (by rw[vY];omega);rw[h3];have h4:(jc J).set (i*2) (.int .i64 J[i].1)=jc J:=by
  refine List.ext_getElem? fun k=>?_;rw[List.getElem?_set];by_cases hk:i*2=k
  ·subst hk;have:=Mj h;rw[Nat.add_zero,E4 h] at this;rw[if_pos rfl,if_pos (by rw[vY];omega),this]
  ·rw[if_neg hk]
 rw[h4]
theorem ints_at{n:List Int}{i:Nat}(h:i<n.length):(ints n)[i]?=some (.int .i64 (nX n i)):=by
 rw[SC h,ints,List.getElem?_map,List.getElem?_eq_getElem h];rfl
theorem ints_set{n:List Int}{i:Nat}(h:i<n.length)(x:Int):Heap.splice (ints n) i [.int .i64 x]=ints (n.set i x):=by
 rw[kU _ _ _ (by rw[aT];exact h),ints,ints,List.map_set]
theorem iM{b n cap j s:Nat}{op:Bool}(h:j<n):pV (.aH s) [.sl b 0 n cap op,.int .i64 (j:Nat)]=some (.ptr b (j*s)):=by
 have b1:Nat.ble (j+1) n=true:=Nat.ble_eq_true_of_le h;simp only[pV,l2,s9];show cond (Nat.ble (j+1) n) (some (AV.ptr b (0+j*s))) none=_;rw[b1,cond_true,Nat.zero_add]
end Ir
end Go.Proofs.Ytecdcefacdodgaa
