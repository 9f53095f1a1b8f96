/-
  Calls that may panic.
-/
import Derived.Test.YtmnolnoeibhjgaaGreatZA
set_option maxRecDepth 100000
set_option linter.unusedSimpArgs false
set_option linter.unusedVariables false
namespace Go.Proofs.YtmnolnoeibhjgaaGreat
open Go Ads
namespace Ads
def VX(fs:Nat→Option aj)(ms:Nat→String→Option Nat)(f:Nat)(args:List AV)(h:Heap)(Q R:AV→Heap→Prop):Prop:=
 (∃v h',(∀B,VS fs ms B (.call f args h) (.val v h'))∧Q v h')∨∃v h',(∀B,VS fs ms B (.call f args h) (.jh v h'))∧R v h'
section
variable {fs:Nat→Option aj} {ms:Nat→String→Option Nat} {B:Nat} {rd:Bool} {z:Bool}
theorem VX.of{f:Nat}{args:List AV}{h:Heap}{Q R:AV→Heap→Prop}(hd:VD fs ms f args h Q):VX fs ms f args h Q R:=.inl hd
theorem VX.mono{f:Nat}{args:List AV}{h:Heap}{Q R Q' R':AV→Heap→Prop}(hx:VX fs ms f args h Q R)(hq:∀v h',Q v h'→Q' v h')(hr:∀v h',R v h'→R' v h'):VX fs ms f args h Q' R':=
 hx.imp (fun⟨v,h',a,b⟩=>⟨v,h',a,hq v h' b⟩) (fun⟨v,h',a,b⟩=>⟨v,h',a,hr v h' b⟩)
def W6(rs:List qv)(Q R:AV→Heap→Prop):AX→Env→Heap→Prop:=fun x e h=>match x with
 |.normal|.ret=>∃vs,er e h rs=some vs∧Q (cB vs) h
 |.panic v=>R v h
 |_=>False
theorem BM{f:Nat}{af:aj}{args:List AV}{h:Heap}{Q R:AV→Heap→Prop}(hf:fs f=some af)(hlen:args.length≤af.ntmps)
  (hw:lK af.ntmps args fun e=>VC fs ms h.next false af.body e h (W6 af.results Q R)):VX fs ms f args h Q R:=by
 rw[iY] at hw;obtain⟨x,e1,h1,hb,hk⟩:=hw;cases x with
 |normal=>obtain⟨vs,h2,h3⟩:=hk;exact .inl ⟨_,_,fun B=>.call hf hlen hb (.inl rfl) h2,h3⟩
 |ret=>obtain⟨vs,h2,h3⟩:=hk;exact .inl ⟨_,_,fun B=>.call hf hlen hb (.inr rfl) h2,h3⟩
 |exit i=>exact hk.elim
 |panic v=>exact .inr ⟨_,_,fun B=>.tQ hf hlen hb,hk⟩
def xL(fs:Nat→Option aj)(ms:Nat→String→Option Nat)(vals:List AV)(h:Heap)(Q R:AV→Heap→Prop):Prop:=match vals with
 |.func (.func f) first aO::args=>VX fs ms f (first++(args++aO)) h Q R
 |_=>False
theorem nA{vals:List AV}{h:Heap}{Q R:AV→Heap→Prop}(hc:xL fs ms vals h Q R):
  (∃v h',(∀B,VS fs ms B (.op rd .call vals h) (.val v h'))∧Q v h')∨∃v h',(∀B,VS fs ms B (.op rd .call vals h) (.jh v h'))∧R v h':=by
 unfold xL at hc;split at hc
 ·rcases hc with⟨v,h1,a,b⟩|⟨v,h1,a,b⟩
  ·exact .inl ⟨v,h1,fun B=>.jH (.cK (a B)),b⟩
  ·exact .inr ⟨v,h1,fun B=>.kG (.nB (a B)),b⟩
 ·exact hc.elim
theorem En{l l1:List bp}{d:Option Nat}{oI:List bx}{e:Env}{h:Heap}{Q:AX→Env→Heap→Prop}(hl:oZ l=some (l1,⟨d,none,.call,oI⟩))
  (hw:FJ fs ms z l1 e h fun e1 h1=>qX e1 oI fun vals=>xL fs ms vals h1 (fun v h2=>gE e1 d v fun e2=>Q .normal e2 h2) fun v h2=>Q (.panic v) e1 h2):VC fs ms B rd (.ops l) e h Q:=by
 have:=lA hl;subst this;obtain⟨tr,e1,h1,a,hk⟩:=dY (rd:=rd) (B:=B) hw;obtain⟨hj,hk⟩:=fq hk;rcases nA (rd:=rd) hk with⟨v,h2,b,hq⟩|⟨v,h2,b,hr⟩
 ·rw[fy] at hq;obtain⟨KH,hc⟩:=rH a (.on (i:=⟨d,none,.call,oI⟩) rfl hj (b B) .nil);exact⟨_,_,_,.ops hc,hq⟩
 ·exact⟨_,_,_,.zD (i:=⟨d,none,.call,oI⟩) (l2:=[]) a rfl hj (b B),hr⟩
theorem SV{l l1:List bp}{win:List (List Nat)}{d:Option Nat}{oI:List bx}{e:Env}{h:Heap}{Q:AX→Env→Heap→Prop}(hl:oZ l=some (l1,⟨d,none,.call,oI⟩))(tC:win.all (·.isEmpty)=true)(mR:lB l=true)
  (hw:FJ fs ms z l1 e h fun e1 h1=>qX e1 oI fun vals=>xL fs ms vals h1 (fun v h2=>gE e1 d v fun e2=>Q .normal e2 h2) fun v h2=>Q (.panic v) e1 h2):VC fs ms B rd (.bI l win) e h Q:=by
 have:=lA hl;subst this;obtain⟨tr,e1,h1,a,hk⟩:=dY (rd:=rd) (B:=B) hw;obtain⟨hj,hk⟩:=fq hk;rcases nA (rd:=rd) hk with⟨v,h2,b,hq⟩|⟨v,h2,b,hr⟩
 ·rw[fy] at hq;obtain⟨KH,hc⟩:=rH a (.on (i:=⟨d,none,.call,oI⟩) rfl hj (b B) .nil);exact⟨_,_,_,.bI tC hc,hq⟩
 ·exact⟨_,_,_,.tS (i:=⟨d,none,.call,oI⟩) a (.inl tC) mR rfl rfl hj (b B),hr⟩
theorem z7:∀{l1 l2:List bp} {e:Env} {h:Heap} {tr e1 h1 wV e2 h2},VS fs ms B (.ops rd l1 e h) (.ops tr e1 h1)→VS fs ms B (.ops rd l2 e1 h1) (.ops wV e2 h2)→VS fs ms B (.ops rd (l1++l2) e h) (.ops (tr++wV) e2 h2)
 |[],l2,e,h,tr,e1,h1,wV,e2,h2,a,b=>by
  cases a
  exact b
 |i::l1,l2,e,h,tr,e1,h1,wV,e2,h2,a,b=>by
  cases a with
  |off hw ha=>exact .off hw (z7 ha b)
  |on hw ho hv ha=>exact .on hw ho hv (z7 ha b)
theorem Qy{l l1:List bp}{win:List (List Nat)}{d:Option Nat}{oI:List bx}{e:Env}{h:Heap}{Q:AX→Env→Heap→Prop}(hl:oZ l=some (l1,⟨d,none,.call,oI⟩))(mR:lB l=true)
  (hw:PL fs ms z l1 e h fun tr e1 h1=>qX e1 oI fun vals=>xL fs ms vals h1 (fun v h2=>um l win (tr++[⟨h1,vals,v,true⟩]) h2∧gE e1 d v fun e2=>Q .normal e2 h2) fun v h2=>um l1 (win.take l1.length) tr h1∧Q (.panic v) e1 h2):VC fs ms B rd (.bI l win) e h Q:=by
 have:=lA hl;subst this;obtain⟨tr,e1,h1,a,hk⟩:=qq (rd:=rd) (B:=B) hw;obtain⟨hj,hk⟩:=fq hk;rcases nA (rd:=rd) hk with⟨v,h2,b,hwk,hq⟩|⟨v,h2,b,hwk,hr⟩
 ·rw[fy] at hq;exact⟨_,_,_,.Gi hwk (z7 a (.on (i:=⟨d,none,.call,oI⟩) rfl hj (b B) .nil)),hq⟩
 ·exact⟨_,_,_,.tS (i:=⟨d,none,.call,oI⟩) a (.inr hwk) mR rfl rfl hj (b B),hr⟩
theorem BL{l l1:List bp}{d:Option Nat}{oI:List bx}{e:Env}{h:Heap}{Q:AX→Env→Heap→Prop}(hl:oZ l=some (l1,⟨d,none,.panic,oI⟩))
  (hw:FJ fs ms z l1 e h fun e1 h1=>qX e1 oI fun vals=>∃t x,vals=[.iface t x]∧x.pl=true∧Q (.panic (.iface t x)) e1 h1):VC fs ms B rd (.ops l) e h Q:=by
 have:=lA hl;subst this;obtain⟨tr,e1,h1,a,hk⟩:=dY (rd:=rd) (B:=B) hw;obtain⟨hj,t,x,h2,h3,hk⟩:=fq hk;exact⟨_,_,_,.zD (i:=⟨d,none,.panic,oI⟩) (l2:=[]) a rfl hj (h2▸.nM h3),hk⟩
theorem II{f:Nat}{af:aj}{args:List AV}{h:Heap}{Q:AV→Heap→Prop}{A:AC}{l1:List bp}{dst:Option Nat}{r:bx}{rest:AC}{g:Nat}{ag:aj}{t:Nat}{l2:List bp}{dJ:AC}{first aO:List AV}
  (hf:fs f=some af)(hlen:args.length≤af.ntmps)(hbody:af.body=.seq A (.seq (.ops (l1++[om dst r])) rest))(DI:aU A=true)
  (hg:fs g=some ag)(DH:(first++aO).length≤ag.ntmps)(Ob:ag.body=.seq (.ops (v9 t::l2)) dJ)(hres:ag.results=[])(X4:aU dJ=true)(jn:ke l2=true)
  (hw:lK af.ntmps args fun e=>VC fs ms h.next false A e h fun x e1 h1=>x=.normal∧VO fs ms h.next false l1 e1 h1 fun e2 h2=>dj e2 [r]=true∧e2.ev r=.func (.func g) first aO∧
   VC fs ms h2.next false rest (e2.put dst .undef) h2 fun x e3 h3=>(x=.normal∨x=.ret∨∃v,x=.panic v)∧(mC x).pl=true∧lK ag.ntmps (first++aO) fun e0=>VO fs ms h3.next false l2 (e0.put (some t) (mC x)) h3 fun e4 h4=>h4=h3∧
    VC fs ms h3.next false dJ e4 h3 fun y e5 h5=>(y=.normal∨y=.ret)∧∃vs,er e3 h5 af.results=some vs∧Q (cB vs) h5):VD fs ms f args h Q:=by
 simp only[iY] at hw;obtain⟨x,e1,h1,a1,rfl,tr,e2,h2,a2,a3,a4,x3,e3,h3,a5,a6,a7,wV,e4,h4,a8,rfl,y,e5,h5,a9,a10,vs,TI,a12⟩:=hw;exact⟨_,_,fun B=>.rW hf hlen hbody a1 DI a2 a3 a4 a5 a6 a7 hg DH Ob hres X4 a8 jn a9 a10 TI,a12⟩
end
end Ads
end Go.Proofs.YtmnolnoeibhjgaaGreat
