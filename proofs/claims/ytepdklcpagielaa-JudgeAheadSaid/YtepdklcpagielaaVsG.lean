/-
  Rows that grow, in any heap.
-/
import Derived.Test.YtepdklcpagielaaVJdC
set_option maxRecDepth 100000
set_option linter.unusedSimpArgs false
set_option linter.unusedVariables false
namespace Go.Proofs.Ytepdklcpagielaa
open Go Ads
namespace Ads
theorem Fr.wk{h h':Heap}{bs cs:List Nat}(f:Fr h h' bs)(hs:∀b∈bs,b∈cs):Fr h h' cs:=⟨f.next,fun c hc hn=>f.keep c hc (fun hb=>hn (hs c hb))⟩
theorem A0{s bytes n:Nat}{h:Heap}{x:AV}{cs:List AV}(hs:iw s h x=some (n,cs))(hf:bx cs=true)(hn:n*bytes≤140737488355328)(hm:n≤140737488355328):
  eV (.append s bytes) [.aD,x] h=some (if n=0 then(.aD,h) else(.sl h.next 0 n n true,h.new (.cells cs true s))):=by
 have b2:Nat.ble (n*bytes) 140737488355328=true:=Nat.ble_eq_true_of_le hn;have b3:Nat.ble n 9223372036854775807=true:=Nat.ble_eq_true_of_le (by omega);simp only[eV,l2,hs];show cond (bx cs) _ _=_;rw[hf,cond_true];cases n with
 |zero=>rfl
 |succ n=>
  rw[show Nat.beq (n+1) 0=false from rfl,cond_false,b2,b3,Bool.and_self,cond_true,if_neg (by omega)]
theorem o8{x:AV}{l:List AV}:bx (x::l)=(x.flat&&bx l):=by
 show cond x.flat (bx l) false=_;cases x.flat<;>rfl
def GR(s:Nat)(lo:Nat)(h:Heap)(v:AV)(l:List AV):Prop:=(l=[]∧v=.aD)∨l≠[]∧∃b,lo≤b∧b<h.next∧v=.sl b 0 l.length l.length true∧h.get b=some (.cells (ai l) true s)
theorem GR.nil{s lo:Nat}{h:Heap}:GR s lo h .aD []:=.inl ⟨rfl,rfl⟩
theorem GR.keep{s lo:Nat}{h h':Heap}{v:AV}{M:List AV}{T:List Nat}(hr:GR s lo h v M)(fr:Fr h h' T)(hT:∀c∈T,c<lo):GR s lo h' v M:=by
 rcases hr with hr|⟨Cz,b,h1,h2,h3,h4⟩
 ·exact .inl hr
 ·exact .inr ⟨Cz,b,h1,Nat.lt_of_lt_of_le h2 fr.next,h3,by rw[fr.keep b h2 (fun hm=>by have:=hT b hm;omega)];exact h4⟩
theorem GR.low{s lo lo':Nat}{h:Heap}{v:AV}{M:List AV}(hr:GR s lo h v M)(hl:lo'≤lo):GR s lo' h v M:=by
 rcases hr with hr|⟨Cz,b,h1,h2⟩
 ·exact .inl hr
 ·exact .inr ⟨Cz,b,Nat.le_trans hl h1,h2⟩
theorem GR.JT{s lo:Nat}{h:Heap}{v:AV}{M:List AV}(hr:GR s lo h v M)(hs:aW s M=true)(hc:bL M=true):∃bs:List Nat,jo (· ∈bs) h v (.fz (gv M.length) M)∧∀b∈bs,lo≤b:=by
 rcases hr with⟨rfl,rfl⟩|⟨Cz,b,h1,h2,rfl,h4⟩
 ·exact⟨[],.aD,by simp⟩
 ·cases M with
  |nil=>exact absurd rfl Cz
  |cons m M=>exact⟨[b],gW (by simp) h4 rfl hs rfl hc,by simpa using h1⟩
theorem GR.len{s lo:Nat}{h:Heap}{v:AV}{M:List AV}(hr:GR s lo h v M):pV .bO [v]=some (.int .i64 ((M.length:Nat):Int)):=by
 rcases hr with⟨rfl,rfl⟩|⟨Cz,b,h1,h2,rfl,h4⟩
 ·rfl
 ·rfl
theorem GR.app{s bytes lo:Nat}{h:Heap}{v:AV}{M:List AV}(hr:GR s lo h v M)(hlo:lo≤h.next){x:AV}(hx:x.cells.length=s)(hf:bx x.cells=true)(hs:aW s M=true)(hl:(M.length+1)*bytes≤140737488355328)(hm:M.length+1≤140737488355328):
  ∃v' g',eV (.append s bytes) [v,.sl h.next 0 1 1 false] (h.new (.cells x.cells true 0))=some (v',g')∧GR s lo g' v' (M++[x])∧h.next≤g'.next∧∀c,c<lo→g'.get c=h.get c:=by
 have hsrc:iw s (h.new (.cells x.cells true 0)) (.sl h.next 0 1 1 false)=some (1,x.cells):=so an (by omega);have Cx:ai (M++[x])=ai M++x.cells:=by rw[kE];simp[ai]
 rcases hr with⟨h1,h2⟩|⟨Cz,b,h1,h2,h3,h4⟩
 ·subst h1 h2;have:=A0 (bytes:=bytes) hsrc hf (by simpa using hl) (by omega);rw[if_neg (by omega)] at this;refine⟨_,_,this,.inr ⟨by simp,h.next+1,by omega,Nat.lt_succ_self _,rfl,?_⟩,by show h.next≤h.next+1+1;omega,fun c hc=>?_⟩
  ·rw[Cx];exact an (h:=h.new (.cells x.cells true 0))
  ·exact(aO (h:=h.new (.cells x.cells true 0)) (show c<h.next+1 by omega)).trans (aO (by omega))
 ·subst h3;have hg:(h.new (.cells x.cells true 0)).get b=some (.cells (ai M) true s):=by rw[aO h2];exact h4
  refine⟨_,_,qZ hg (c9 hs) hsrc hf hl hm,.inr ⟨by simp,h.next+1,by omega,Nat.lt_succ_self _,by rw[List.length_append];rfl,?_⟩,by show h.next≤h.next+1+1;omega,fun c hc=>?_⟩
  ·have:=an (h:=(h.new (.cells x.cells true 0)).del b) (x:=.cells (ai M++x.cells) true s);rw[show((h.new (.cells x.cells true 0)).del b).next=h.next+1 from rfl] at this;rw[this,Cx]
  ·have hne:c≠b:=by omega
   exact(aO (h:=(h.new (.cells x.cells true 0)).del b) (show c<h.next+1 by omega)).trans ((l8 hne).trans (aO (by omega)))
theorem GR.copy{s bytes lo k:Nat}{h:Heap}{M:List AV}(hlo:lo≤h.next)(hs:aW s M=true)(hf:bx (ai M)=true)(hl:M.length*bytes≤140737488355328)(hm:M.length≤140737488355328):
  ∃v' g',eV (.append s bytes) [.aD,.fz k M] h=some (v',g')∧GR s lo g' v' M∧Fr h g' []:=by
 have:=A0 (bytes:=bytes) (qB (k:=k) (h:=h) hs) hf hl hm;by_cases hz:M.length=0
 ·rw[if_pos hz] at this;exact⟨_,_,this,.inl ⟨List.eq_nil_of_length_eq_zero hz,rfl⟩,Fr.refl _ _⟩
 ·rw[if_neg hz] at this;exact⟨_,_,this,.inr ⟨fun h=>hz (by rw[h];rfl),h.next,hlo,Nat.lt_succ_self _,rfl,an⟩,(Fr.refl _ _).new⟩
end Ads
end Go.Proofs.Ytepdklcpagielaa
