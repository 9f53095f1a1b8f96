/-
  How ids are compared and sorted by insertion.
-/
import Derived.Test.YtenafeojcgmnhaaVRdG
set_option maxRecDepth 100000
set_option linter.unusedSimpArgs false
set_option linter.unusedVariables false
namespace Go.Proofs.Ytenafeojcgmnhaa
open Go Ads
namespace Ir
theorem DQ(x:Int):PC fs ms 68 [.int .i64 x] (.bool false):=by
 refine j9 rfl rfl ?_;refine aE (af:=Sd) false rfl (Nat.le_of_ble_eq_true rfl) ?_;generalize hQ:(fun(u:AV) (_:Heap)=>u=.bool false)=Q;conv=>whnf
 subst hQ;simp
def Av(x y:Int):Int:=if x<y then-1 else if y<x then 1 else 0
theorem xh(x y:Int):PC fs ms 50 [.int .i64 x,.int .i64 y] (.int .i64 (Av x y)):=by
 refine j9 rfl rfl ?_;refine aE (af:=RU) false rfl (Nat.le_of_ble_eq_true rfl) ?_;generalize hQ:(fun(u:AV) (_:Heap)=>u=.int .i64 (Av x y))=Q;conv=>whnf
 refine aZ (DQ x) ?_;conv=>whnf
 refine aZ (DQ y) ?_;conv=>whnf
 refine br (fun hc=>?_) (fun hc=>?_)<;>(try rw[hc])<;>(conv=>whnf)
 ·have h1:x<y:=of_decide_eq_true hc;subst hQ;rw[Av,if_pos h1]
 ·have h1:¬x<y:=of_decide_eq_false hc;refine br (fun hc=>?_) (fun hc=>?_)<;>(try rw[hc])<;>(conv=>whnf)
  ·have h2:y<x:=of_decide_eq_true hc;subst hQ;rw[Av,if_neg h1,if_pos h2]
  ·have h2:¬y<x:=of_decide_eq_false hc;subst hQ;rw[Av,if_neg h1,if_neg h2]
def Nv(a b:Int):Int:=if a≠0 then a else b
theorem Tj(a b:Int)(k:Nat):PC fs ms 49 [.fz k [.int .i64 a,.int .i64 b]] (.int .i64 (Nv a b)):=by
 refine j9 rfl rfl ?_;refine aE (af:=RT) false rfl (Nat.le_of_ble_eq_true rfl) ?_;generalize hQ:(fun(u:AV) (_:Heap)=>u=.int .i64 (Nv a b))=Q;conv=>whnf
 refine bB (z:=false) ?_;conv=>whnf
 refine⟨_,(pP (j:=0) (x:=.int .i64 a) rfl rfl),?_⟩;conv=>whnf
 refine br (fun hc=>?_) (fun hc=>?_)<;>(try rw[hc])<;>(conv=>whnf)
 ·have h1:a≠0:=by simpa using hc
  subst hQ;rw[Nv,if_pos h1]
 ·have h1:¬a≠0:=by simpa using hc
  refine bB (z:=false) ?_;conv=>whnf
  refine⟨_,(pP (j:=1) (x:=.int .i64 b) rfl rfl),?_⟩;conv=>whnf
  refine br (fun hc=>?_) (fun hc=>?_)<;>(try rw[hc])<;>(conv=>whnf)
  ·have h2:b≠0:=by simpa using hc
   subst hQ;rw[Nv,if_neg h1]
  ·have h2:¬b≠0:=by simpa using hc
   refine bB (z:=false) ?_;conv=>whnf
   subst hQ;rw[Nv,if_neg h1];have:b=0:=by omega
   rw[this]
theorem JP{s:List UInt8}{n:Nat}(h:n<s.length):pV .za [.str s,.int .u8 ((n:Nat):Int)]=some (.int .u8 ((s[n].toNat:Nat):Int)):=by
 show(s[n]?).map (fun b=>AV.int .u8 ((b.toNat:Nat):Int))=_;rw[List.getElem?_eq_getElem h];rfl
theorem IZ{n:Nat}(h:n<65):∃m,PC fs ms 80 [.int .u64 ((n:Nat):Int)] (.int .i64 m):=by
 have key:VD fs ms 80 [.int .u64 ((n:Nat):Int)] ⟨0,.nil⟩ (fun u _=>∃m,u=.int .i64 m):=by
  have hw:IntKind.u8.wrap ((n:Nat):Int)=((n:Nat):Int):=by
   show((n:Nat):Int)%256=_;omega
  obtain⟨N,hN⟩:∃N:Int,N=((n:Nat):Int):=⟨_,rfl⟩;rw[←hN];refine aE (af:=Sm) false rfl (Nat.le_of_ble_eq_true rfl) ?_;generalize hQ:(fun(u:AV) (_:Heap)=>∃m,u=.int .i64 m)=Q;conv=>whnf
  refine od (decide_eq_false (by omega)) (fun hc=>?_)
  (try rw[hc])
  conv=>whnf
  refine od (decide_eq_false (by omega)) (fun hc=>?_)
  (try rw[hc])
  conv=>whnf
  refine od (decide_eq_false (by omega)) (fun hc=>?_)
  (try rw[hc])
  conv=>whnf
  rw[hN,hw];refine⟨_,JP (n:=n) (Nat.lt_of_lt_of_le h (by decide)),?_⟩;conv=>whnf
  subst hQ;exact⟨_,rfl⟩
 obtain⟨v,g,hb,m,rfl⟩:=key;exact⟨m,rfl,rfl,_,g,hb,.clean rfl⟩
theorem FG{n:Nat}(h:n<65):∃m,PC fs ms 67 [.int .u64 ((n:Nat):Int)] (.int .i64 m):=by
 obtain⟨m,hm⟩:=IZ h;refine⟨m,j9 rfl rfl ?_⟩;refine aE (af:=Sc) false rfl (Nat.le_of_ble_eq_true rfl) ?_;conv=>whnf
 refine aZ hm ?_;conv=>whnf
def uo(x y:Id):Int:=Nv (Av x.2 y.2) (Av x.1 y.1)
theorem iS(x y:Id):uo x y<0↔ah x y=true:=by
 rw[gH];unfold uo Nv Av;split<;>split<;>(try split)<;>(try split)<;>simp at*<;>omega
theorem kj(x y:Id):PC fs ms 48 [ob x,ob y] (.int .i64 (uo x y)):=by
 refine j9 rfl rfl ?_;refine aE (af:=RR) false rfl (Nat.le_of_ble_eq_true rfl) ?_;generalize hQ:(fun(u:AV) (_:Heap)=>u=.int .i64 (uo x y))=Q;obtain⟨x1,x2⟩:=x;obtain⟨y1,y2⟩:=y;conv=>whnf
 refine aZ (xh x2 y2) ?_;conv=>whnf
 refine aZ (xh x1 y1) ?_;conv=>whnf
 refine jv (Tj _ _ 0) rfl (.cons (.row (s:=1) trivial rfl rfl rfl rfl (Nat.le_refl _) (by omega) (fun h=>by omega) (fun h=>by omega) rfl) .nil) ?_;conv=>whnf
 refine⟨eA (by(conv=>whnf);repeat' (first|exact trivial|(exact⟨rfl,rfl,.inr ⟨_,_,rfl⟩⟩)|(refine⟨rfl,rfl,.inl ⟨rfl,fun o ho=>?_⟩⟩;cases ho;first|rfl)|(exact⟨rfl,.inr ⟨_,_,rfl⟩⟩)|(refine⟨rfl,.inl ⟨rfl,fun i o hi ho=>?_⟩⟩;cases hi;cases ho;first|rfl)|(refine And.intro (fun dY=>(Bool.false_ne_true dY).elim) ?_<;>conv=>whnf)|(refine And.intro (fun _=>?_) ?_<;>conv=>whnf)|(refine And.intro ?_ ?_<;>conv=>whnf))),?_⟩;subst hQ;rfl
end Ir
end Go.Proofs.Ytenafeojcgmnhaa
