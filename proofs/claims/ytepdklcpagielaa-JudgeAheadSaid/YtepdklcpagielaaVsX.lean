/-
  Stops inside regions, loops and tests.
-/
import Derived.Test.YtepdklcpagielaaVRdA
set_option maxRecDepth 100000
set_option linter.unusedSimpArgs false
set_option linter.unusedVariables false
namespace Go.Proofs.Ytepdklcpagielaa
open Go Ads
namespace Ads
theorem bJ{fs:Nat→Option aB}{ms:Nat→String→Option Nat}{B:Nat}{rd:Bool}{c:AC}{e:Env}{h:Heap}{Q:AX→Env→Heap→Prop}
  (hw:VC fs ms B rd c e h fun x e1 h1=>match x with|.normal=>VC fs ms B rd (.loop c) e1 h1 Q|x=>Q x e1 h1):VC fs ms B rd (.loop c) e h Q:=by
 obtain⟨x,e1,h1,hb,hk⟩:=hw;cases x with
 |normal=>
  obtain⟨x2,e2,h2,iH,hk2⟩:=hk;exact⟨_,_,_,.nP hb iH,hk2⟩
 |exit i=>exact⟨_,_,_,.dJ hb rfl,hk⟩
 |ret=>exact⟨_,_,_,.dJ hb rfl,hk⟩
 |panic v=>exact⟨_,_,_,.dJ hb rfl,hk⟩
theorem aT{o:Al}{args:List AV}{h h':Heap}{v:AV}{k:AV→Heap→Prop}(hs:eV o args h=some (v,h'))(hq:∀h1,h1=h'→k v h1):∃v h1,eV o args h=some (v,h1)∧k v h1:=⟨v,h',hs,hq h' rfl⟩
section
variable {fs:Nat→Option aB} {ms:Nat→String→Option Nat} {B:Nat} {rd:Bool}
theorem Ab:∀{l1 l2:List bK} {e:Env} {h:Heap} {tr e1 h1 AP e2 h2},VS fs ms B (.ops rd l1 e h) (.ops tr e1 h1)→VS fs ms B (.ops rd l2 e1 h1) (.ops AP e2 h2)→∃TL,VS fs ms B (.ops rd (l1++l2) e h) (.ops TL e2 h2)
 |[],l2,e,h,tr,e1,h1,AP,e2,h2,a,b=>by
  cases a
  exact⟨_,b⟩
 |i::l1,l2,e,h,tr,e1,h1,AP,e2,h2,a,b=>by
  cases a with
  |off hw ha=>
   obtain⟨TL,hc⟩:=Ab ha b;exact⟨_,.off hw hc⟩
  |on hw ho hv ha=>
   obtain⟨TL,hc⟩:=Ab ha b;exact⟨_,.on hw ho hv hc⟩
theorem wX{l:List bK}{e:Env}{h:Heap}{K:Env→Heap→Prop}(n:Nat)(hw:VO fs ms B rd (l.take n) e h fun e1 h1=>VO fs ms B rd (l.drop n) e1 h1 K):VO fs ms B rd l e h K:=by
 obtain⟨tr,e1,h1,a,AP,e2,h2,b,hk⟩:=hw;obtain⟨TL,hc⟩:=Ab a b;rw[List.take_append_drop] at hc;exact⟨TL,e2,h2,hc,hk⟩
theorem Nf{l:List bK}{e:Env}{h:Heap}{Q:AX→Env→Heap→Prop}(hw:VO fs ms B rd l e h fun e1 h1=>Q .normal e1 h1):VC fs ms B rd (.ops l) e h Q:=by
 obtain⟨tr,e1,h1,a,hk⟩:=hw;exact⟨_,_,_,.ops a,hk⟩
theorem VO.mono{l:List bK}{e:Env}{h:Heap}{K K':Env→Heap→Prop}(hc:VO fs ms B rd l e h K)(hq:∀e' h',K e' h'→K' e' h'):VO fs ms B rd l e h K':=by
 obtain⟨tr,e',h',hb,hk⟩:=hc;exact⟨tr,e',h',hb,hq e' h' hk⟩
theorem b9{c:bV}{a b:AC}{e:Env}{h:Heap}{Q:AX→Env→Heap→Prop}(hw:Uj e c fun v=>match v with|.bool t=>Ch t (VC fs ms B rd a e h Q) (VC fs ms B rd b e h Q)|_=>False):VC fs ms B rd (.cond c a b) e h Q:=by
 obtain⟨ha,hw⟩:=vZ hw;split at hw
 ·rename_i t ht;rcases jI hw with⟨rfl,h2⟩|⟨rfl,h2⟩
  ·obtain⟨x,e1,h1,hb,hk⟩:=h2;exact⟨_,_,_,.cond ha ht hb,hk⟩
  ·obtain⟨x,e1,h1,hb,hk⟩:=h2;exact⟨_,_,_,.cond ha ht hb,hk⟩
 ·exact hw.elim
end
end Ads
end Go.Proofs.Ytepdklcpagielaa
