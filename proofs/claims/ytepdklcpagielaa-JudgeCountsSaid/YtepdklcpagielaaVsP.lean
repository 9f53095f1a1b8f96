/-
  Calls that may panic.
-/
import Derived.Test.YtepdklcpagielaaVsX
set_option maxRecDepth 100000
set_option linter.unusedSimpArgs false
set_option linter.unusedVariables false
namespace Go.Proofs.Ytepdklcpagielaa
open Go Ads
namespace Ads
def VX(fs:Nat→Option aB)(ms:Nat→String→Option Nat)(f:Nat)(args:List AV)(h:Heap)(Q R:AV→Heap→Prop):Prop:=
 (∃v h',(∀B,VS fs ms B (.call f args h) (.val v h'))∧Q v h')∨∃v h',(∀B,VS fs ms B (.call f args h) (.kP v h'))∧R v h'
section
variable {fs:Nat→Option aB} {ms:Nat→String→Option Nat} {B:Nat} {rd:Bool} {z:Bool}
theorem VX.of{f:Nat}{args:List AV}{h:Heap}{Q R:AV→Heap→Prop}(hd:VD fs ms f args h Q):VX fs ms f args h Q R:=.inl hd
theorem VX.mono{f:Nat}{args:List AV}{h:Heap}{Q R Q' R':AV→Heap→Prop}(hx:VX fs ms f args h Q R)(hq:∀v h',Q v h'→Q' v h')(hr:∀v h',R v h'→R' v h'):VX fs ms f args h Q' R':=
 hx.imp (fun⟨v,h',a,b⟩=>⟨v,h',a,hq v h' b⟩) (fun⟨v,h',a,b⟩=>⟨v,h',a,hr v h' b⟩)
def aaL(rs:List tF)(Q R:AV→Heap→Prop):AX→Env→Heap→Prop:=fun x e h=>match x with
 |.normal|.ret=>∃vs,er e h rs=some vs∧Q (dz vs) h
 |.panic v=>R v h
 |_=>False
theorem sA{f:Nat}{af:aB}{args:List AV}{h:Heap}{Q R:AV→Heap→Prop}(hf:fs f=some af)(hlen:args.length≤af.ntmps)
  (hw:mJ af.ntmps args fun e=>VC fs ms h.next false af.body e h (aaL af.results Q R)):VX fs ms f args h Q R:=by
 rw[lI] at hw;obtain⟨x,e1,h1,hb,hk⟩:=hw;cases x with
 |normal=>obtain⟨vs,h2,h3⟩:=hk;exact .inl ⟨_,_,fun B=>.call hf hlen hb (.inl rfl) h2,h3⟩
 |ret=>obtain⟨vs,h2,h3⟩:=hk;exact .inl ⟨_,_,fun B=>.call hf hlen hb (.inr rfl) h2,h3⟩
 |exit i=>exact hk.elim
 |panic v=>exact .inr ⟨_,_,fun B=>.w6 hf hlen hb,hk⟩
def Dy(fs:Nat→Option aB)(ms:Nat→String→Option Nat)(vals:List AV)(h:Heap)(Q R:AV→Heap→Prop):Prop:=match vals with
 |.func (.func f) first aN::args=>VX fs ms f (first++(args++aN)) h Q R
 |_=>False
theorem uj{vals:List AV}{h:Heap}{Q R:AV→Heap→Prop}(hc:Dy fs ms vals h Q R):
  (∃v h',(∀B,VS fs ms B (.op rd .call vals h) (.val v h'))∧Q v h')∨∃v h',(∀B,VS fs ms B (.op rd .call vals h) (.kP v h'))∧R v h':=by
 unfold Dy at hc;split at hc
 ·rcases hc with⟨v,h1,a,b⟩|⟨v,h1,a,b⟩
  ·exact .inl ⟨v,h1,fun B=>.mF (.dw (a B)),b⟩
  ·exact .inr ⟨v,h1,fun B=>.oD (.pY (a B)),b⟩
 ·exact hc.elim
theorem jV{l l1:List bK}{d:Option Nat}{Dc:List bV}{e:Env}{h:Heap}{Q:AX→Env→Heap→Prop}(hl:rL l=some (l1,⟨d,none,.call,Dc⟩))
  (hw:Nj fs ms z l1 e h fun e1 h1=>v7 e1 Dc fun vals=>Dy fs ms vals h1 (fun v h2=>ju e1 d v fun e2=>Q .normal e2 h2) fun v h2=>Q (.panic v) e1 h2):VC fs ms B rd (.ops l) e h Q:=by
 have:=nN hl;subst this;obtain⟨tr,e1,h1,a,hk⟩:=dh (rd:=rd) (B:=B) hw;obtain⟨hj,hk⟩:=jX hk;rcases uj (rd:=rd) hk with⟨v,h2,b,hq⟩|⟨v,h2,b,hr⟩
 ·rw[jf] at hq;obtain⟨TL,hc⟩:=Ab a (.on (i:=⟨d,none,.call,Dc⟩) rfl hj (b B) .nil);exact⟨_,_,_,.ops hc,hq⟩
 ·exact⟨_,_,_,.Et (i:=⟨d,none,.call,Dc⟩) (l2:=[]) a rfl hj (b B),hr⟩
theorem z6{l l1:List bK}{win:List (List Nat)}{d:Option Nat}{Dc:List bV}{e:Env}{h:Heap}{Q:AX→Env→Heap→Prop}(hl:rL l=some (l1,⟨d,none,.call,Dc⟩))(wF:win.all (·.isEmpty)=true)(tS:nO l=true)
  (hw:Nj fs ms z l1 e h fun e1 h1=>v7 e1 Dc fun vals=>Dy fs ms vals h1 (fun v h2=>ju e1 d v fun e2=>Q .normal e2 h2) fun v h2=>Q (.panic v) e1 h2):VC fs ms B rd (.bH l win) e h Q:=by
 have:=nN hl;subst this;obtain⟨tr,e1,h1,a,hk⟩:=dh (rd:=rd) (B:=B) hw;obtain⟨hj,hk⟩:=jX hk;rcases uj (rd:=rd) hk with⟨v,h2,b,hq⟩|⟨v,h2,b,hr⟩
 ·rw[jf] at hq;obtain⟨TL,hc⟩:=Ab a (.on (i:=⟨d,none,.call,Dc⟩) rfl hj (b B) .nil);exact⟨_,_,_,.bH wF hc,hq⟩
 ·exact⟨_,_,_,.xg (i:=⟨d,none,.call,Dc⟩) a (.inl wF) tS rfl rfl hj (b B),hr⟩
theorem C3:∀{l1 l2:List bK} {e:Env} {h:Heap} {tr e1 h1 AP e2 h2},VS fs ms B (.ops rd l1 e h) (.ops tr e1 h1)→VS fs ms B (.ops rd l2 e1 h1) (.ops AP e2 h2)→VS fs ms B (.ops rd (l1++l2) e h) (.ops (tr++AP) e2 h2)
 |[],l2,e,h,tr,e1,h1,AP,e2,h2,a,b=>by
  cases a
  exact b
 |i::l1,l2,e,h,tr,e1,h1,AP,e2,h2,a,b=>by
  cases a with
  |off hw ha=>exact .off hw (C3 ha b)
  |on hw ho hv ha=>exact .on hw ho hv (C3 ha b)
theorem JQ{l l1:List bK}{win:List (List Nat)}{d:Option Nat}{Dc:List bV}{e:Env}{h:Heap}{Q:AX→Env→Heap→Prop}(hl:rL l=some (l1,⟨d,none,.call,Dc⟩))(tS:nO l=true)
  (hw:T5 fs ms z l1 e h fun tr e1 h1=>v7 e1 Dc fun vals=>Dy fs ms vals h1 (fun v h2=>xF l win (tr++[⟨h1,vals,v,true⟩]) h2∧ju e1 d v fun e2=>Q .normal e2 h2) fun v h2=>xF l1 (win.take l1.length) tr h1∧Q (.panic v) e1 h2):VC fs ms B rd (.bH l win) e h Q:=by
 have:=nN hl;subst this;obtain⟨tr,e1,h1,a,hk⟩:=tC (rd:=rd) (B:=B) hw;obtain⟨hj,hk⟩:=jX hk;rcases uj (rd:=rd) hk with⟨v,h2,b,hwk,hq⟩|⟨v,h2,b,hwk,hr⟩
 ·rw[jf] at hq;exact⟨_,_,_,.KK hwk (C3 a (.on (i:=⟨d,none,.call,Dc⟩) rfl hj (b B) .nil)),hq⟩
 ·exact⟨_,_,_,.xg (i:=⟨d,none,.call,Dc⟩) a (.inr hwk) tS rfl rfl hj (b B),hr⟩
theorem Ng{l l1:List bK}{d:Option Nat}{Dc:List bV}{e:Env}{h:Heap}{Q:AX→Env→Heap→Prop}(hl:rL l=some (l1,⟨d,none,.panic,Dc⟩))
  (hw:Nj fs ms z l1 e h fun e1 h1=>v7 e1 Dc fun vals=>∃t x,vals=[.iface t x]∧x.pl=true∧Q (.panic (.iface t x)) e1 h1):VC fs ms B rd (.ops l) e h Q:=by
 have:=nN hl;subst this;obtain⟨tr,e1,h1,a,hk⟩:=dh (rd:=rd) (B:=B) hw;obtain⟨hj,t,x,h2,h3,hk⟩:=jX hk;exact⟨_,_,_,.Et (i:=⟨d,none,.panic,Dc⟩) (l2:=[]) a rfl hj (h2▸.qm h3),hk⟩
theorem Ni{f:Nat}{af:aB}{args:List AV}{h:Heap}{Q:AV→Heap→Prop}{A:AC}{l1:List bK}{dst:Option Nat}{r:bV}{rest:AC}{g:Nat}{ag:aB}{t:Nat}{l2:List bK}{eE:AC}{first aN:List AV}
  (hf:fs f=some af)(hlen:args.length≤af.ntmps)(hbody:af.body=.seq A (.seq (.ops (l1++[qJ dst r])) rest))(Hz:bp A=true)
  (hg:fs g=some ag)(Hw:(first++aN).length≤ag.ntmps)(Sj:ag.body=.seq (.ops (zu t::l2)) eE)(hres:ag.results=[])(abJ:bp eE=true)(m9:mH l2=true)
  (hw:mJ af.ntmps args fun e=>VC fs ms h.next false A e h fun x e1 h1=>x=.normal∧VO fs ms h.next false l1 e1 h1 fun e2 h2=>ey e2 [r]=true∧e2.ev r=.func (.func g) first aN∧
   VC fs ms h2.next false rest (e2.put dst .undef) h2 fun x e3 h3=>(x=.normal∨x=.ret∨∃v,x=.panic v)∧(oQ x).pl=true∧mJ ag.ntmps (first++aN) fun e0=>VO fs ms h3.next false l2 (e0.put (some t) (oQ x)) h3 fun e4 h4=>h4=h3∧
    VC fs ms h3.next false eE e4 h3 fun y e5 h5=>(y=.normal∨y=.ret)∧∃vs,er e3 h5 af.results=some vs∧Q (dz vs) h5):VD fs ms f args h Q:=by
 simp only[lI] at hw;obtain⟨x,e1,h1,a1,rfl,tr,e2,h2,a2,a3,a4,x3,e3,h3,a5,a6,a7,AP,e4,h4,a8,rfl,y,e5,h5,a9,a10,vs,a11,a12⟩:=hw;exact⟨_,_,fun B=>.uQ hf hlen hbody a1 Hz a2 a3 a4 a5 a6 a7 hg Hw Sj hres abJ a8 m9 a9 a10 a11,a12⟩
end
end Ads
end Go.Proofs.Ytepdklcpagielaa
