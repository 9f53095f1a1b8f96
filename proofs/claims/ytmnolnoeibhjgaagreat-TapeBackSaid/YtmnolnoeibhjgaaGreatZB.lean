/-
  Judge: a partition's notes. Judge: in how many ticks a partition ran. Rows that grow, in any heap.
-/
import Derived.Test.YtmnolnoeibhjgaaGreatZA
set_option maxRecDepth 100000
set_option linter.unusedSimpArgs false
set_option linter.unusedVariables false
namespace Go.Proofs.YtmnolnoeibhjgaaGreat
open Go Ads
namespace Ads
theorem wI{h:Heap}{b s n cap:Nat}{op wr:Bool}{es:Nat}{cs:List AV}(hg:h.get b=some (.cells cs wr es))(hl:cs.length=n*s):eY s h (.sl b 0 n cap op)=some (n,cs):=by
 have b1:Nat.ble (0+n*s) cs.length=true:=Nat.ble_eq_true_of_le (by omega);show(h.bt b 0 (n*s)).map _=_;have:h.bt b 0 (n*s)=some cs:=by
  simp only[Heap.bt,Heap.row,hg,b1,cond_true,List.drop_zero];rw[←hl,List.take_length]
 rw[this];rfl
theorem rT{h:Heap}{s bytes b m:Nat}{vs cs:List AV}{x:AV}(hg:h.get b=some (.cells vs true s))(hv:vs.length=m*s)(hsrc:eY s h x=some (1,cs))(hf:bz cs=true)(hb:(m+1)*bytes≤140737488355328)(hm:m+1≤140737488355328):
  eV (.append s bytes) [.sl b 0 m m true,x] h=some (.sl h.next 0 (m+1) (m+1) true,(h.del b).new (.cells (vs++cs) true s)):=by
 have b1:Nat.ble (m+1) m=false:=by cases hb:Nat.ble (m+1) m with|false=>rfl|true=>(have:=Nat.le_of_ble_eq_true hb;omega)
 have b2:Nat.ble ((m+1)*bytes) 140737488355328=true:=Nat.ble_eq_true_of_le hb;have b3:Nat.ble (m+1) 9223372036854775807=true:=Nat.ble_eq_true_of_le (by omega);have b4:Nat.ble (0+m*s) vs.length=true:=Nat.ble_eq_true_of_le (by omega);have b5:Nat.beq vs.length (0+m*s)=true:=by rw[hv,Nat.zero_add];exact Nat.beq_refl _
 have qI:h.bt b 0 (m*s)=some vs:=by
  simp only[Heap.bt,Heap.row,hg,b4,cond_true,List.drop_zero];rw[←hv,List.take_length]
 simp only[eV,l2,hsrc];show cond (bz cs) _ _=_;rw[hf,cond_true];show cond (Nat.beq 1 0&&Nat.ble m m) _ _=_;rw[show Nat.beq 1 0=false from rfl,Bool.false_and,cond_false,b1,cond_false,b2,b3,Bool.and_self,cond_true,hg,qI];show cond true (cond (true&&Nat.beq vs.length (0+m*s)&&Nat.beq m m&&Nat.beq s s) _ _) _=_;rw[b5,Nat.beq_refl,Nat.beq_refl];rfl
theorem jT{h:Heap}{b c:Nat}(hn:c≠b):(h.del b).get c=h.get c:=by rw[Heap.cJ,if_neg hn]
end Ads
namespace Ir
structure Nt where
 a:Int
 k:Int
 p:Int
 t:Int
 n:Int
 e:Int
 s:List UInt8
 deriving DecidableEq
def nt(x:Nt):AV:=.agg [.int .i64 x.a,.int .i64 x.k,.int .i64 x.p,.int .i64 x.t,.int .i64 x.n,.int .i64 x.e,.str x.s]
def E7(l:List Nt):List AV:=l.map nt
theorem zn(l:List Nt):(E7 l).length=l.length:=List.length_map ..
theorem wE(l:List Nt):aL 7 (E7 l)=true:=ef (enc:=nt) (fun _=>rfl) l
theorem Gb(l:List Nt):e9 (E7 l)=true:=nC (enc:=nt) (fun _=>rfl) l
theorem Yv{l:List Nt}{j k:Nat}(hj:j<l.length):pV (.aB 7) [.fz k (E7 l),.int .i64 (j:Nat)]=some (.fp (nt l[j]).cells 0):=uI (enc:=nt) hj rfl
def NR(lo:Nat)(h:Heap)(v:AV)(M:List Nt):Prop:=(M=[]∧v=.az)∨∃b,lo≤b∧b<h.next∧v=.sl b 0 M.length M.length true∧h.get b=some (.cells (ak (E7 M)) true 7)
theorem NR.keep{lo:Nat}{h h':Heap}{v:AV}{M:List Nt}(hr:NR lo h v M)(fr:Fr h h' []):NR lo h' v M:=by
 rcases hr with hr|⟨b,h1,h2,h3,h4⟩
 ·exact .inl hr
 ·exact .inr ⟨b,h1,Nat.lt_of_lt_of_le h2 fr.next,h3,by rw[fr.keep b h2 (by simp)];exact h4⟩
theorem NR.BX{lo:Nat}{h:Heap}{v:AV}{M:List Nt}(hr:NR lo h v M):∃k,jr (fun _=>True) h v (.fz k (E7 M)):=by
 rcases hr with⟨rfl,rfl⟩|⟨b,h1,h2,rfl,h4⟩
 ·exact⟨3,.az⟩
 ·exact⟨0,jS trivial h4 rfl (wE M) (zn M).symm (Gb M)⟩
theorem NR.app{lo:Nat}{h:Heap}{v:AV}{M:List Nt}(hr:NR lo h v M)(hlo:lo≤h.next)(hl:(M.length+1)*64≤140737488355328)(x:Nt):∃v' g',eV (.append 7 64) [v,.sl h.next 0 1 1 false] (h.new (.cells (nt x).cells true 0))=some (v',g')∧
  NR lo g' v' (M++[x])∧h.next≤g'.next∧∀c,c<lo→g'.get c=h.get c:=by
 have hsrc:eY 7 (h.new (.cells (nt x).cells true 0)) (.sl h.next 0 1 1 false)=some (1,(nt x).cells):=wI au rfl;have AU:ak (E7 (M++[x]))=ak (E7 M)++(nt x).cells:=by rw[E7,List.map_append,lg];simp[ak,E7]
 rcases hr with⟨h1,h2⟩|⟨b,h1,h2,h3,h4⟩
 ·subst h1 h2;refine⟨_,_,Ey (by omega) hsrc rfl,.inr ⟨h.next+1,by omega,Nat.lt_succ_self _,rfl,?_⟩,by show h.next≤h.next+1+1;omega,fun c hc=>?_⟩
  ·exact au (h:=h.new (.cells (nt x).cells true 0))
  ·exact(aF (h:=h.new (.cells (nt x).cells true 0)) (show c<h.next+1 by omega)).trans (aF (by omega))
 ·subst h3;have hg:(h.new (.cells (nt x).cells true 0)).get b=some (.cells (ak (E7 M)) true 7):=by rw[aF h2];exact h4
  refine⟨_,_,rT hg (by rw[gX (wE M),zn]) hsrc rfl hl (by omega),.inr ⟨h.next+1,by omega,Nat.lt_succ_self _,by rw[List.length_append];rfl,?_⟩,by show h.next≤h.next+1+1;omega,fun c hc=>?_⟩
  ·have:=au (h:=(h.new (.cells (nt x).cells true 0)).del b) (x:=.cells (ak (E7 M)++(nt x).cells) true 7);rw[show((h.new (.cells (nt x).cells true 0)).del b).next=h.next+1 from rfl] at this;rw[this,AU]
  ·have hne:c≠b:=by omega
   exact(aF (h:=(h.new (.cells (nt x).cells true 0)).del b) (show c<h.next+1 by omega)).trans ((jT hne).trans (aF (by omega)))
def KX(p:Int)(l:List Nt):List Nt:=l.filter fun x=>x.p==p
theorem GA{p:Int}{l:List Nt}{j:Nat}(hj:j<l.length):KX p (l.take (j+1))=if l[j].p=p then KX p (l.take j)++[l[j]] else KX p (l.take j):=by
 rw[dz hj,KX,List.filter_append];by_cases h:l[j].p=p
 ·rw[if_pos h];simp[KX,h]
 ·rw[if_neg h];simp[KX,h]
theorem W8(p:Int)(l:List Nt):(KX p l).length≤l.length:=List.length_filter_le ..
def yb(from_ YQ:Int)(x:Nt):Bool:=decide (x.k=1)&&decide (from_≤x.a)&&decide (x.a<YQ)
def Km(p from_ YQ:Int)(l:List Nt):Nat:=((KX p l).filter (yb from_ YQ)).length
theorem Qt{p x1 x2:Int}{l:List Nt}{j:Nat}(hj:j<l.length):Km p x1 x2 (l.take (j+1))=if(l[j].p==p&&yb x1 x2 l[j])=true then Km p x1 x2 (l.take j)+1 else Km p x1 x2 (l.take j):=by
 unfold Km;rw[GA hj];by_cases h:l[j].p=p
 ·rw[if_pos h,List.filter_append];by_cases h2:yb x1 x2 l[j]=true
  ·simp[h,h2]
  ·simp[h,h2]
 ·rw[if_neg h];simp[h]
end Ir
end Go.Proofs.YtmnolnoeibhjgaaGreat
namespace Go.Proofs.YtmnolnoeibhjgaaGreat
open Go Ads
namespace Ads
theorem gY{h0 h:Heap}{bs:List Nat}(hb:∀b∈bs,h0.next≤b)(fr:Fr h0 h []):Fr h0 (cg bs h) []:=
 ⟨by rw[bF];exact fr.next,fun c hc hn=>by rw[dm,if_neg (fun hm=>by have:=hb c hm;omega)];exact fr.keep c hc hn⟩
end Ads
namespace Ir
theorem NR.ZZ{lo:Nat}{h:Heap}{v:AV}{M:List Nt}(hr:NR lo h v M):∃(k:Nat) (bs:List Nat),jr (· ∈bs) h v (.fz k (E7 M))∧∀b∈bs,lo≤b:=by
 rcases hr with⟨rfl,rfl⟩|⟨b,h1,h2,rfl,h4⟩
 ·exact⟨3,[],.az,by simp⟩
 ·exact⟨0,[b],jS (by simp) h4 rfl (wE M) (zn M).symm (Gb M),by simpa using h1⟩
theorem NR.len{lo:Nat}{h:Heap}{v:AV}{M:List Nt}(hr:NR lo h v M):pV .aV [v]=some (.int .i64 ((M.length:Nat):Int)):=by
 rcases hr with⟨rfl,rfl⟩|⟨b,h1,h2,rfl,h4⟩
 ·rfl
 ·rfl
def Jm(x1 x2:Int)(l:List Nt):Nat:=(l.filter (yb x1 x2)).length
theorem PZ{x1 x2:Int}{l:List Nt}{j:Nat}(hj:j<l.length):Jm x1 x2 (l.take (j+1))=if yb x1 x2 l[j]=true then Jm x1 x2 (l.take j)+1 else Jm x1 x2 (l.take j):=by
 rw[dz hj];unfold Jm;rw[List.filter_append];by_cases h2:yb x1 x2 l[j]=true
 ·simp[h2]
 ·simp[h2]
end Ir
end Go.Proofs.YtmnolnoeibhjgaaGreat
namespace Go.Proofs.YtmnolnoeibhjgaaGreat
open Go Ads
namespace Ads
theorem Fr.wk{h h':Heap}{bs cs:List Nat}(f:Fr h h' bs)(hs:∀b∈bs,b∈cs):Fr h h' cs:=⟨f.next,fun c hc hn=>f.keep c hc (fun hb=>hn (hs c hb))⟩
theorem kJ{s bytes n:Nat}{h:Heap}{x:AV}{cs:List AV}(hs:eY s h x=some (n,cs))(hf:bz cs=true)(hn:n*bytes≤140737488355328)(hm:n≤140737488355328):
  eV (.append s bytes) [.az,x] h=some (if n=0 then(.az,h) else(.sl h.next 0 n n true,h.new (.cells cs true s))):=by
 have b2:Nat.ble (n*bytes) 140737488355328=true:=Nat.ble_eq_true_of_le hn;have b3:Nat.ble n 9223372036854775807=true:=Nat.ble_eq_true_of_le (by omega);simp only[eV,l2,hs];show cond (bz cs) _ _=_;rw[hf,cond_true];cases n with
 |zero=>rfl
 |succ n=>
  rw[show Nat.beq (n+1) 0=false from rfl,cond_false,b2,b3,Bool.and_self,cond_true,if_neg (by omega)]
theorem P8{x:AV}{l:List AV}:bz (x::l)=(x.flat&&bz l):=by
 show cond x.flat (bz l) false=_;cases x.flat<;>rfl
def GR(s:Nat)(lo:Nat)(h:Heap)(v:AV)(l:List AV):Prop:=(l=[]∧v=.az)∨l≠[]∧∃b,lo≤b∧b<h.next∧v=.sl b 0 l.length l.length true∧h.get b=some (.cells (ak l) true s)
theorem GR.nil{s lo:Nat}{h:Heap}:GR s lo h .az []:=.inl ⟨rfl,rfl⟩
theorem GR.keep{s lo:Nat}{h h':Heap}{v:AV}{M:List AV}{T:List Nat}(hr:GR s lo h v M)(fr:Fr h h' T)(hT:∀c∈T,c<lo):GR s lo h' v M:=by
 rcases hr with hr|⟨kD,b,h1,h2,h3,h4⟩
 ·exact .inl hr
 ·exact .inr ⟨kD,b,h1,Nat.lt_of_lt_of_le h2 fr.next,h3,by rw[fr.keep b h2 (fun hm=>by have:=hT b hm;omega)];exact h4⟩
theorem GR.low{s lo lo':Nat}{h:Heap}{v:AV}{M:List AV}(hr:GR s lo h v M)(hl:lo'≤lo):GR s lo' h v M:=by
 rcases hr with hr|⟨kD,b,h1,h2⟩
 ·exact .inl hr
 ·exact .inr ⟨kD,b,Nat.le_trans hl h1,h2⟩
theorem GR.BX{s lo:Nat}{h:Heap}{v:AV}{M:List AV}(hr:GR s lo h v M)(hs:aL s M=true)(hc:e9 M=true):∃bs:List Nat,jr (· ∈bs) h v (.fz (cR M.length) M)∧∀b∈bs,lo≤b:=by
 rcases hr with⟨rfl,rfl⟩|⟨kD,b,h1,h2,rfl,h4⟩
 ·exact⟨[],.az,by simp⟩
 ·cases M with
  |nil=>exact absurd rfl kD
  |cons m M=>exact⟨[b],jS (by simp) h4 rfl hs rfl hc,by simpa using h1⟩
theorem GR.len{s lo:Nat}{h:Heap}{v:AV}{M:List AV}(hr:GR s lo h v M):pV .aV [v]=some (.int .i64 ((M.length:Nat):Int)):=by
 rcases hr with⟨rfl,rfl⟩|⟨kD,b,h1,h2,rfl,h4⟩
 ·rfl
 ·rfl
theorem GR.app{s bytes lo:Nat}{h:Heap}{v:AV}{M:List AV}(hr:GR s lo h v M)(hlo:lo≤h.next){x:AV}(hx:x.cells.length=s)(hf:bz x.cells=true)(hs:aL s M=true)(hl:(M.length+1)*bytes≤140737488355328)(hm:M.length+1≤140737488355328):
  ∃v' g',eV (.append s bytes) [v,.sl h.next 0 1 1 false] (h.new (.cells x.cells true 0))=some (v',g')∧GR s lo g' v' (M++[x])∧h.next≤g'.next∧∀c,c<lo→g'.get c=h.get c:=by
 have hsrc:eY s (h.new (.cells x.cells true 0)) (.sl h.next 0 1 1 false)=some (1,x.cells):=wI au (by omega);have AU:ak (M++[x])=ak M++x.cells:=by rw[lg];simp[ak]
 rcases hr with⟨h1,h2⟩|⟨kD,b,h1,h2,h3,h4⟩
 ·subst h1 h2;have:=kJ (bytes:=bytes) hsrc hf (by simpa using hl) (by omega);rw[if_neg (by omega)] at this;refine⟨_,_,this,.inr ⟨by simp,h.next+1,by omega,Nat.lt_succ_self _,rfl,?_⟩,by show h.next≤h.next+1+1;omega,fun c hc=>?_⟩
  ·rw[AU];exact au (h:=h.new (.cells x.cells true 0))
  ·exact(aF (h:=h.new (.cells x.cells true 0)) (show c<h.next+1 by omega)).trans (aF (by omega))
 ·subst h3;have hg:(h.new (.cells x.cells true 0)).get b=some (.cells (ak M) true s):=by rw[aF h2];exact h4
  refine⟨_,_,rT hg (gX hs) hsrc hf hl hm,.inr ⟨by simp,h.next+1,by omega,Nat.lt_succ_self _,by rw[List.length_append];rfl,?_⟩,by show h.next≤h.next+1+1;omega,fun c hc=>?_⟩
  ·have:=au (h:=(h.new (.cells x.cells true 0)).del b) (x:=.cells (ak M++x.cells) true s);rw[show((h.new (.cells x.cells true 0)).del b).next=h.next+1 from rfl] at this;rw[this,AU]
  ·have hne:c≠b:=by omega
   exact(aF (h:=(h.new (.cells x.cells true 0)).del b) (show c<h.next+1 by omega)).trans ((jT hne).trans (aF (by omega)))
theorem GR.copy{s bytes lo k:Nat}{h:Heap}{M:List AV}(hlo:lo≤h.next)(hs:aL s M=true)(hf:bz (ak M)=true)(hl:M.length*bytes≤140737488355328)(hm:M.length≤140737488355328):
  ∃v' g',eV (.append s bytes) [.az,.fz k M] h=some (v',g')∧GR s lo g' v' M∧Fr h g' []:=by
 have:=kJ (bytes:=bytes) (zY (k:=k) (h:=h) hs) hf hl hm;by_cases hz:M.length=0
 ·rw[if_pos hz] at this;exact⟨_,_,this,.inl ⟨List.eq_nil_of_length_eq_zero hz,rfl⟩,Fr.refl _ _⟩
 ·rw[if_neg hz] at this;exact⟨_,_,this,.inr ⟨fun h=>hz (by rw[h];rfl),h.next,hlo,Nat.lt_succ_self _,rfl,au⟩,(Fr.refl _ _).new⟩
end Ads
end Go.Proofs.YtmnolnoeibhjgaaGreat
