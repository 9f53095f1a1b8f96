/-
  Judge: the chapter's examples, by Find's contract.
-/
import Derived.Test.YtepdklcpagielaaVJu
import Derived.KernelRfl
set_option maxRecDepth 100000
set_option linter.unusedSimpArgs false
set_option linter.unusedVariables false
namespace Go.Proofs.Ytepdklcpagielaa
open Go Ads
namespace Ir
def RE:Tk:=⟨8,8,2,0,0,0,0,0⟩
def U1:List Pt:=[⟨4,2,2,[RE]⟩]
theorem RD:Fits U1 []:=⟨by decide,by decide,by decide⟩
theorem Iv:PC fs ms 75 [] (cfg 2 U1 3 []):=by
 refine⟨rfl,rfl,?_⟩;refine aC (af:=Yl) false rfl (Nat.le_of_ble_eq_true rfl) ?_;conv=>whnf
 have key:∀{g:Heap} {b:Nat},g.get b=some (.cells (tk RE).cells true 0)→jo (fun _=>True) g (.sl b 0 1 1 false) (.fz 2 (dI [RE])):=fun hg=>.row (s:=8) trivial hg rfl rfl rfl (Nat.le_refl _) (Nat.le_refl _) (fun _=>rfl) (fun _=>rfl) rfl;refine .RA (.cons (.sl (s:=3) trivial rfl rfl rfl (Nat.le_refl _) (Nat.le_refl _) (Nat.le_refl _) (fun _=>rfl) (fun _=>rfl) ?_) (.cons .aD .nil));intro i x j c y hx hc hy
 match i,hx with
 |0,hx=>
  cases hx
  match j,hc with
  |0,hc=>cases hc;cases hy;exact .clean rfl
  |1,hc=>cases hc;cases hy;exact .clean rfl
  |2,hc=>cases hc;cases hy;exact key rfl
theorem Hp(k:Nat)(l:List Nt)(un r w:Int)(hl:l.length≤17592186044416)(hr:di U1 [] l un=(r,w,0)):PC fs ms 49 [.int .i64 un,.int .i64 r,.int .i64 w,.fz k (b8 l)] (.bool true):=by
 refine aX (by simp[bL,AV.cl,nG]) rfl ?_;refine bw (af:=XQ) rfl (Nat.le_of_ble_eq_true rfl) ?_;conv=>whnf
 refine aj true ?_;conv=>whnf
 refine aj true ?_;conv=>whnf
 refine au Iv ?_;conv=>whnf
 refine au (qh (k:=2) (ko:=3) (kl:=k) (L:=U1) (O:=[]) RD (by decide) hl un) ?_;conv=>whnf
 rw[hr];refine ak 4 [(1,.int .i64 r),(2,.int .i64 w),(9,.int .i64 r),(10,.int .i64 w),(11,.int .i64 0)] ⟨rfl,rfl,rfl,rfl,rfl,trivial⟩ ?_;refine aa (z:=true) ?_;conv=>whnf
 refine kO (by simp) (fun hc=>?_)
 (try rw[hc])
 conv=>whnf
 refine kO (by simp) (fun hc=>?_)
 (try rw[hc])
 conv=>whnf
 rfl
theorem sP{h:Heap}{b n:Nat}{l:List Nt}{un r w:Int}(hg:h.get b=some (.cells (ai (b8 l)) true 0))(hn:n=l.length)(hl:l.length≤17592186044416)(hr:di U1 [] l un=(r,w,0)){Q:AV→Heap→Prop}(hQ:Q (.bool true) h):
  VD fs ms 49 [.int .i64 un,.int .i64 r,.int .i64 w,.sl b 0 n n false] h Q:=
 ji (Hp 0 l un r w hl hr) rfl (.cons (.clean rfl) (.cons (.clean rfl) (.cons (.clean rfl) (.cons (.row (s:=7) trivial hg rfl (dK l) (by rw[bU];exact hn) (Nat.le_refl _) (Nat.zero_le _) (fun h=>by omega) (fun h=>by omega) (nG l)) .nil)))) hQ
def wJ:Nt:=⟨1,6,0,0,0,0,[]⟩
def wA':Nt:=⟨1,1,0,-1,0,0,[]⟩
def wB':Nt:=⟨2,1,0,-1,0,0,[]⟩
theorem lK:PC fs ms 21 [] (.bool true):=by
 refine aX rfl rfl ?_;refine aC (af:=XA) false rfl (Nat.le_of_ble_eq_true rfl) ?_;conv=>whnf
 refine wW [] (args':=[.int .i64 5,.int .i64 0,.int .i64 0,.fz 3 (b8 [])]) (.cons (.clean rfl) (.cons (.clean rfl) (.cons (.clean rfl) (.cons .aD .nil)))) ?_;refine au (Hp 3 [] 5 0 0 (by decide) (by kernel_rfl)) ?_;conv=>whnf
 refine sP (l:=[wJ,wA',wB']) rfl rfl (by decide) (by kernel_rfl) ?_;conv=>whnf
 refine sP (l:=[wJ,wA',wB']) rfl rfl (by decide) (by kernel_rfl) ?_;conv=>whnf
 refine sP (l:=[wJ,wB']) rfl rfl (by decide) (by kernel_rfl) ?_;conv=>whnf
 refine sP (l:=[wJ]) rfl rfl (by decide) (by kernel_rfl) ?_;conv=>whnf
 refine sP (l:=[⟨0,1,0,-1,0,0,[]⟩]) rfl rfl (by decide) (by kernel_rfl) ?_;conv=>whnf
 refine sP (l:=[wJ,⟨1,1,0,0,0,0,[]⟩]) rfl rfl (by decide) (by kernel_rfl) ?_;conv=>whnf
end Ir
end Go.Proofs.Ytepdklcpagielaa
