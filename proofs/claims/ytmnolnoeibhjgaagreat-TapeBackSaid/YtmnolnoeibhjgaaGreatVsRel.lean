/-
  How the values and heaps of the layer Vs stand to those of Ads.
-/
import Derived.Test.YtmnolnoeibhjgaaGreatVsDef
set_option linter.unusedVariables false
set_option linter.unusedSimpArgs false
namespace Go.Proofs.YtmnolnoeibhjgaaGreat
namespace Ads
inductive Rel(s:Nat→Nat)(n:Nat)(F:Nat→Prop)(h:Heap):AV→AV→Prop where
 |bool {b}:Rel s n F h (.bool b) (.bool b)
 |int {k i}:Rel s n F h (.int k i) (.int k i)
 |str {l}:Rel s n F h (.str l) (.str l)
 |ptr {b o}:b<n→Rel s n F h (.ptr b o) (.ptr (s b) o)
 |bJ:Rel s n F h .bJ .bJ
 |sl {b o len cap op}:b<n→Rel s n F h (.sl b o len cap op) (.sl (s b) o len cap op)
 |rest {b o k}:b<n→Rel s n F h (.rest b o k) (.rest (s b) o k)
 |az:Rel s n F h .az .az
 |map {b}:b<n→Rel s n F h (.map b) (.map (s b))
 |jg:Rel s n F h .jg .jg
 |func {fn first first' aO oK}:first.length=first'.length→(∀(i:Nat) (x y:AV),first[i]?=some x→first'[i]?=some y→Rel s n F h x y)→
   aO.length=oK.length→(∀(i:Nat) (x y:AV),aO[i]?=some x→oK[i]?=some y→Rel s n F h x y)→Rel s n F h (.func fn first aO) (.func fn first' oK)
 |iZ:Rel s n F h .iZ .iZ
 |yield {b}:b<n→Rel s n F h (.yield b) (.yield (s b))
 |iface {t v v'}:Rel s n F h v v'→Rel s n F h (.iface t v) (.iface t v')
 |ja:Rel s n F h .ja .ja
 |agg {cs cs'}:cs.length=cs'.length→(∀(i:Nat) (x y:AV),cs[i]?=some x→cs'[i]?=some y→Rel s n F h x y)→Rel s n F h (.agg cs) (.agg cs')
 |dO {cs cs'}:cs.length=cs'.length→(∀(i:Nat) (x y:AV),cs[i]?=some x→cs'[i]?=some y→Rel s n F h x y)→Rel s n F h (.dO cs) (.dO cs')
 |fz {k l b o len cap op vs wr es z}:F b→h.get b=some (.cells vs wr es)→aL z l=true→len=l.length→o+l.length*z≤vs.length→len≤cap→k≤2→(1≤k→op=false)→(2≤k→cap=len)→
   (∀(i:Nat) (x:AV) (j:Nat) (c y:AV),l[i]?=some x→x.cells[j]?=some c→vs[o+(i*z+j)]?=some y→Rel s n F h c y)→Rel s n F h (.fz k l) (.sl b o len cap op)
 |iJ:Rel s n F h (.fz 3 []) .az
 |xW {k a}:k≤2→Rel s n F h (.fz k []) (.fE a)
 |fp {cs o b o' base vs wr es}:F b→h.get b=some (.cells vs wr es)→o'=base+o→base+cs.length≤vs.length→
   (∀(j:Nat) (c y:AV),cs[j]?=some c→vs[base+j]?=some y→Rel s n F h c y)→Rel s n F h (.fp cs o) (.ptr b o')
def aX(s:Nat→Nat)(n:Nat)(F:Nat→Prop)(h:Heap)(l l':List AV):Prop:=
 l.length=l'.length∧∀(i:Nat) (x y:AV),l[i]?=some x→l'[i]?=some y→Rel s n F h x y
section
variable {s s':Nat→Nat} {n n':Nat} {F F':Nat→Prop} {h h':Heap}
theorem Rel.mono{v w:AV}(r:Rel s n F h v w)(hs:∀b,b<n→s' b=s b)(hn:n≤n')(hF:∀b,F b→F' b)(hh:∀b,F b→h'.get b=h.get b):Rel s' n' F' h' v w:=by
 induction r with
 |bool=>exact .bool
 |int=>exact .int
 |str=>exact .str
 |ptr hb=>rw[←hs _ hb];exact .ptr (Nat.lt_of_lt_of_le hb hn)
 |bJ=>exact .bJ
 |sl hb=>rw[←hs _ hb];exact .sl (Nat.lt_of_lt_of_le hb hn)
 |rest hb=>rw[←hs _ hb];exact .rest (Nat.lt_of_lt_of_le hb hn)
 |az=>exact .az
 |map hb=>rw[←hs _ hb];exact .map (Nat.lt_of_lt_of_le hb hn)
 |jg=>exact .jg
 |func h1 _ h3 _ ih1 ih2=>exact .func h1 ih1 h3 ih2
 |iZ=>exact .iZ
 |yield hb=>rw[←hs _ hb];exact .yield (Nat.lt_of_lt_of_le hb hn)
 |iface _ ih=>exact .iface ih
 |ja=>exact .ja
 |agg h1 _ ih=>exact .agg h1 ih
 |dO h1 _ ih=>exact .dO h1 ih
 |fz hf hg h1 h2 h3 h4 hk h5 h6 _ ih=>exact .fz (hF _ hf) (by rw[hh _ hf];exact hg) h1 h2 h3 h4 hk h5 h6 ih
 |iJ=>exact .iJ
 |xW hk=>exact .xW hk
 |fp hf hg h1 h2 _ ih=>exact .fp (hF _ hf) (by rw[hh _ hf];exact hg) h1 h2 ih
theorem aX.mono{l l':List AV}(r:aX s n F h l l')(hs:∀b,b<n→s' b=s b)(hn:n≤n')(hF:∀b,F b→F' b)(hh:∀b,F b→h'.get b=h.get b):aX s' n' F' h' l l':=
 ⟨r.1,fun i x y hx hy=>(r.2 i x y hx hy).mono hs hn hF hh⟩
theorem aX.nil:aX s n F h [] []:=⟨rfl,fun i x y hx=>by simp at hx⟩
theorem aX.cons{x y:AV}{l l':List AV}(h1:Rel s n F h x y)(h2:aX s n F h l l'):aX s n F h (x::l) (y::l'):=by
 refine⟨by simp[h2.1],fun i a b ha hb=>?_⟩;cases i with
 |zero=>simp at ha hb;subst ha hb;exact h1
 |succ i=>exact h2.2 i a b (by simpa using ha) (by simpa using hb)
theorem aX.l8{l:List AV}(r:aX s n F h [] l):l=[]:=List.length_eq_zero_iff.1 (by simpa using r.1.symm)
theorem aX.cons_inv{x:AV}{l m:List AV}(r:aX s n F h (x::l) m):∃y l',m=y::l'∧Rel s n F h x y∧aX s n F h l l':=by
 cases m with
 |nil=>have:=r.1;simp at this
 |cons y l'=>
  refine⟨y,l',rfl,r.2 0 x y rfl rfl,by simpa using r.1,fun i a b ha hb=>r.2 (i+1) a b (by simpa using ha) (by simpa using hb)⟩
theorem aX.append{l l' m m':List AV}(h1:aX s n F h l l')(h2:aX s n F h m m'):aX s n F h (l++m) (l'++m'):=by
 refine⟨by simp[h1.1,h2.1],fun i a b ha hb=>?_⟩;by_cases hi:i<l.length
 ·rw[List.getElem?_append_left hi] at ha;rw[List.getElem?_append_left (by rw[←h1.1];exact hi)] at hb;exact h1.2 i a b ha hb
 ·rw[List.getElem?_append_right (by omega)] at ha;rw[List.getElem?_append_right (by rw[←h1.1];omega),←h1.1] at hb;exact h2.2 _ a b ha hb
theorem aX.take{l l':List AV}(r:aX s n F h l l')(k:Nat):aX s n F h (l.take k) (l'.take k):=by
 refine⟨by simp[r.1],fun i a b ha hb=>?_⟩;rw[List.getElem?_take] at ha hb;split at ha
 ·rw[if_pos ‹_›] at hb;exact r.2 i a b ha hb
 ·simp at ha
theorem aX.drop{l l':List AV}(r:aX s n F h l l')(k:Nat):aX s n F h (l.drop k) (l'.drop k):=by
 refine⟨by simp[r.1],fun i a b ha hb=>?_⟩;rw[List.getElem?_drop] at ha hb;exact r.2 _ a b ha hb
theorem aX.get{l l':List AV}(r:aX s n F h l l'){i:Nat}{x:AV}(hx:l[i]?=some x):∃y,l'[i]?=some y∧Rel s n F h x y:=by
 have hl:=(List.getElem?_eq_some_iff.1 hx).1;have hl':i<l'.length:=by rw[←r.1];exact hl
 exact⟨l'[i],List.getElem?_eq_getElem hl',r.2 i x _ hx (List.getElem?_eq_getElem hl')⟩
theorem aX.splice{l l' m m':List AV}(r:aX s n F h l l')(q:aX s n F h m m')(o:Nat)(ho:o+m.length≤l.length):aX s n F h (Heap.splice l o m) (Heap.splice l' o m'):=by
 refine⟨by simp[Heap.dB,r.1],fun i a b ha hb=>?_⟩;rw[Heap.ew _ _ _ _ ho] at ha;rw[Heap.ew _ _ _ _ (by rw[←q.1,←r.1];exact ho),←q.1] at hb;split at ha
 ·rw[if_pos ‹_›] at hb;exact q.2 _ a b ha hb
 ·rw[if_neg ‹_›] at hb;exact r.2 _ a b ha hb
theorem Rel.dU:∀{v:AV},v.pl=true→Rel s n F h v v:=by
 intro v;refine AV.rec (motive_1:=fun v=>v.pl=true→Rel s n F h v v) (motive_2:=fun l=>kS l=true→aX s n F h l l) ?_ ?_ ?_ ?_ ?_ ?_ ?_ ?_ ?_ ?_ ?_ ?_ ?_ ?_ ?_ ?_ ?_ ?_ ?_ ?_ ?_ ?_ v
 case refine_1=>intro b _;exact .bool
 case refine_2=>intro k m _;exact .int
 case refine_3=>intro l _;exact .str
 case refine_4=>intro b o hp;simp[AV.pl] at hp
 case refine_5=>intro _;exact .bJ
 case refine_6=>intro b o l c op hp;simp[AV.pl] at hp
 case refine_7=>intro _;exact .az
 case refine_8=>intro a hp;simp[AV.pl] at hp
 case refine_9=>intro b hp;simp[AV.pl] at hp
 case refine_10=>intro _;exact .jg
 case refine_11=>intro fn first aO ih1 ih2 hp;simp only[AV.pl,Bool.and_eq_true] at hp;exact .func rfl (ih1 hp.1.1).2 rfl (ih2 hp.1.2).2
 case refine_12=>intro _;exact .iZ
 case refine_13=>intro b hp;simp[AV.pl] at hp
 case refine_14=>intro t v ih hp;exact .iface (ih (by simpa[AV.pl] using hp))
 case refine_15=>intro _;exact .ja
 case refine_16=>intro cs ih hp;exact .agg rfl (ih (by simpa[AV.pl] using hp)).2
 case refine_17=>intro cs ih hp;exact .dO rfl (ih (by simpa[AV.pl] using hp)).2
 case refine_18=>intro k l ih hp;simp[AV.pl] at hp
 case refine_19=>intro cs o ih hp;simp[AV.pl] at hp
 case refine_20=>intro b o k hp;simp[AV.pl] at hp
 case refine_21=>intro _;exact .nil
 case refine_22=>intro x l ih1 ih2 hp;simp only[kS,Bool.and_eq_true] at hp;exact .cons (ih1 hp.1) (ih2 hp.2)
theorem iN:∀{l:List AV} {i:Nat} {x:AV},kS l=true→l[i]?=some x→x.pl=true
 |[],i,x,_,hx=>by simp at hx
 |y::l,0,x,hp,hx=>by simp at hx;subst hx;simp only[kS,Bool.and_eq_true] at hp;exact hp.1
 |y::l,i+1,x,hp,hx=>by simp only[kS,Bool.and_eq_true] at hp;exact iN hp.2 (by simpa using hx)
theorem fm:∀{l:List AV} {i:Nat} {x:AV},e9 l=true→l[i]?=some x→x.cl=true
 |[],i,x,_,hx=>by simp at hx
 |y::l,0,x,hp,hx=>by simp at hx;subst hx;simp only[e9,Bool.and_eq_true] at hp;exact hp.1
 |y::l,i+1,x,hp,hx=>by simp only[e9,Bool.and_eq_true] at hp;exact fm hp.2 (by simpa using hx)
theorem gB{v:AV}(hc:v.cl=true):e9 v.cells=true:=by
 cases v<;>simp_all[AV.cells,AV.cl,e9]
theorem Rel.iK{v w:AV}(r:Rel s n F h v w):v.pl=true→w=v:=by
 induction r with
 |ptr _|sl _|map _|yield _|rest _=>intro hp;simp[AV.pl] at hp
 |fz|fp|iJ|xW=>intro hp;simp[AV.pl] at hp
 |iface _ ih=>intro hp;rw[ih (by simpa[AV.pl] using hp)]
 |agg h1 _ ih=>
  intro hp;simp only[AV.pl] at hp
  congr 1
  refine List.ext_getElem? fun i=>?_;rename_i cs cs' _;cases hx:cs[i]? with
  |none=>rw[List.getElem?_eq_none (by rw[←h1];exact List.getElem?_eq_none_iff.1 hx)]
  |some x=>
   have hl:=(List.getElem?_eq_some_iff.1 hx).1;have hy:=List.getElem?_eq_getElem (l:=cs') (i:=i) (by rw[←h1];exact hl);rw[hy,ih i x _ hx hy (iN hp hx)]
 |dO h1 _ ih=>
  intro hp;simp only[AV.pl] at hp
  congr 1
  refine List.ext_getElem? fun i=>?_;rename_i cs cs' _;cases hx:cs[i]? with
  |none=>rw[List.getElem?_eq_none (by rw[←h1];exact List.getElem?_eq_none_iff.1 hx)]
  |some x=>
   have hl:=(List.getElem?_eq_some_iff.1 hx).1;have hy:=List.getElem?_eq_getElem (l:=cs') (i:=i) (by rw[←h1];exact hl);rw[hy,ih i x _ hx hy (iN hp hx)]
 |func h1 _ h3 _ ih1 ih2=>
  intro hp;simp only[AV.pl,Bool.and_eq_true] at hp;rename_i fn first first' aO oK _ _
  congr 1
  ·refine List.ext_getElem? fun i=>?_;cases hx:first[i]? with
   |none=>rw[List.getElem?_eq_none (by rw[←h1];exact List.getElem?_eq_none_iff.1 hx)]
   |some x=>
    have hl:=(List.getElem?_eq_some_iff.1 hx).1;have hy:=List.getElem?_eq_getElem (l:=first') (i:=i) (by rw[←h1];exact hl);rw[hy,ih1 i x _ hx hy (iN hp.1.1 hx)]
  ·refine List.ext_getElem? fun i=>?_;cases hx:aO[i]? with
   |none=>rw[List.getElem?_eq_none (by rw[←h3];exact List.getElem?_eq_none_iff.1 hx)]
   |some x=>
    have hl:=(List.getElem?_eq_some_iff.1 hx).1;have hy:=List.getElem?_eq_getElem (l:=oK) (i:=i) (by rw[←h3];exact hl);rw[hy,ih2 i x _ hx hy (iN hp.1.2 hx)]
 |_=>intro _;rfl
theorem Rel.clean{v w:AV}(r:Rel s n F h v w):v.cl=true→Rel s' n' F h v w:=by
 induction r with
 |ptr _|sl _|map _|yield _|rest _=>intro hp;simp[AV.cl] at hp
 |bool=>intro _;exact .bool
 |int=>intro _;exact .int
 |str=>intro _;exact .str
 |bJ=>intro _;exact .bJ
 |az=>intro _;exact .az
 |jg=>intro _;exact .jg
 |iZ=>intro _;exact .iZ
 |ja=>intro _;exact .ja
 |iface _ ih=>intro hp;exact .iface (ih (by simpa[AV.cl] using hp))
 |agg h1 _ ih=>intro hp;simp only[AV.cl] at hp;exact .agg h1 fun i x y hx hy=>ih i x y hx hy (fm hp hx)
 |dO h1 _ ih=>intro hp;simp only[AV.cl] at hp;exact .dO h1 fun i x y hx hy=>ih i x y hx hy (fm hp hx)
 |func h1 _ h3 _ ih1 ih2=>
  intro hp;simp only[AV.cl,Bool.and_eq_true] at hp;exact .func h1 (fun i x y hx hy=>ih1 i x y hx hy (fm hp.1.1 hx)) h3 fun i x y hx hy=>ih2 i x y hx hy (fm hp.1.2 hx)
 |iJ=>intro _;exact .iJ
 |xW hk=>intro _;exact .xW hk
 |fz hf hg h1 h2 h3 h4 hk h5 h6 _ ih=>
  intro hp;simp only[AV.cl] at hp;exact .fz hf hg h1 h2 h3 h4 hk h5 h6 fun i x j c y hx hc hy=>ih i x j c y hx hc hy (fm (gB (fm hp hx)) hc)
 |fp hf hg h1 h2 _ ih=>
  intro hp;simp only[AV.cl] at hp;exact .fp hf hg h1 h2 fun j c y hc hy=>ih j c y hc hy (fm hp hc)
theorem aX.clean{l l':List AV}(r:aX s n F h l l')(hp:e9 l=true):aX s' n' F h l l':=
 ⟨r.1,fun i x y hx hy=>(r.2 i x y hx hy).clean (fm hp hx)⟩
theorem Rel.cells{v w:AV}(r:Rel s n F h v w):aX s n F h v.cells w.cells:=by
 cases r with
 |agg h1 h2=>exact⟨h1,h2⟩
 |bool=>exact .cons .bool .nil
 |int=>exact .cons .int .nil
 |str=>exact .cons .str .nil
 |ptr hb=>exact .cons (.ptr hb) .nil
 |bJ=>exact .cons .bJ .nil
 |sl hb=>exact .cons (.sl hb) .nil
 |rest hb=>exact .cons (.rest hb) .nil
 |az=>exact .cons .az .nil
 |map hb=>exact .cons (.map hb) .nil
 |jg=>exact .cons .jg .nil
 |func h1 h2 h3 h4=>exact .cons (.func h1 h2 h3 h4) .nil
 |iZ=>exact .cons .iZ .nil
 |yield hb=>exact .cons (.yield hb) .nil
 |iface h1=>exact .cons (.iface h1) .nil
 |ja=>exact .cons .ja .nil
 |dO h1 h2=>exact .cons (.dO h1 h2) .nil
 |fz h1 h2 h3 h4 h5 h6 hk h7 h8 h9=>exact .cons (.fz h1 h2 h3 h4 h5 h6 hk h7 h8 h9) .nil
 |iJ=>exact .cons .iJ .nil
 |xW hk=>exact .cons (.xW hk) .nil
 |fp h1 h2 h3 h4 h5=>exact .cons (.fp h1 h2 h3 h4 h5) .nil
theorem Rel.flat{v w:AV}(r:Rel s n F h v w):w.flat=v.flat:=by cases r<;>rfl
theorem aX.flat{l l':List AV}(r:aX s n F h l l'):bz l'=bz l:=by
 induction l generalizing l' with
 |nil=>rw[r.l8]
 |cons x l ih=>
  obtain⟨y,m,rfl,h1,h2⟩:=r.cons_inv;simp only[bz,h1.flat,ih h2]
def ER(s:Nat→Nat)(n:Nat)(F:Nat→Prop)(h:Heap)(e e':Env):Prop:=∀i v,Tr.get e i=some v→Rel s n F h v (e'.get i)
theorem ER.mono{e e':Env}(r:ER s n F h e e')(hs:∀b,b<n→s' b=s b)(hn:n≤n')(hF:∀b,F b→F' b)(hh:∀b,F b→h'.get b=h.get b):ER s' n' F' h' e e':=fun i v hv=>(r i v hv).mono hs hn hF hh
theorem Rel.undef:Rel s n F h .undef .undef:=.dO rfl (fun i x y hx=>by simp at hx)
theorem tU(e:Env)(d:Nat)(v:AV)(t:Nat):(Env.get (Tr.set e d v) t)=if t=d then v else e.get t:=by
 simp only[Env.get,Tr.aT];split<;>rfl
theorem ER.set{e e':Env}(r:ER s n F h e e')(d:Nat){v w:AV}(hv:Rel s n F h v w):ER s n F h (Tr.set e d v) (Tr.set e' d w):=by
 intro i u hu;rw[tU];rw[Tr.aT] at hu;split
 ·rename_i hi;rw[if_pos hi] at hu;cases hu;exact hv
 ·rename_i hi;rw[if_neg hi] at hu;exact r i u hu
theorem ER.put{e e':Env}(r:ER s n F h e e')(d:Option Nat){v w:AV}(hv:Rel s n F h v w):ER s n F h (e.put d v) (e'.put d w):=by
 cases d with
 |none=>exact r
 |some d=>exact r.set d hv
theorem ER.args{e e':Env}(r:ER s n F h e e'):∀{l l':List AV} (i:Nat),aX s n F h l l'→ER s n F h (Env.args l i e) (Env.args l' i e'):=by
 intro l;induction l generalizing e e' with
 |nil=>intro l' i q;rw[q.l8];exact r
 |cons x l ih=>
  intro l' i q;obtain⟨y,m,rfl,h1,h2⟩:=q.cons_inv;exact ih (r.set i h1) (i+1) h2
theorem AN:∀(d i:Nat),(Tr.full d:Tr AV).get i=none
 |0,i=>rfl
 |d+1,i=>by
  simp only[Tr.full,Tr.get];cases Nat.beq i 0 with
  |true=>rfl
  |false=>cases Nat.beq (i%2) 1<;>simp[AN d]
theorem ER.start{l l':List AV}(k:Nat)(q:aX s n F h l l'):ER s n F h (Env.start k l) (Env.start k l'):=by
 refine ER.args (fun i v hv=>?_) 0 q;rw[AN] at hv;simp at hv
theorem ER.eW{e e':Env}(r:ER s n F h e e'):∀{ps:List Nat} {l l':List AV},aX s n F h l l'→ER s n F h (eW ps l e) (eW ps l' e'):=by
 intro ps;induction ps generalizing e e' with
 |nil=>intro l l' q;unfold Ads.eW;exact r
 |cons p ps ih=>
  intro l l' q;cases l with
  |nil=>rw[q.l8];unfold Ads.eW;exact r
  |cons x l=>
   obtain⟨y,m,rfl,h1,h2⟩:=q.cons_inv;exact ih (r.set p h1) h2
def D4:bx→Bool
 |.t _=>true
 |.c v=>v.pl
def kf:List bx→Bool
 |[]=>true
 |r::l=>D4 r&&kf l
theorem Cv{e:Env}{i:Nat}{v:AV}(h:Tr.get e i=some v):e.get i=v:=by simp[Env.get,h]
theorem ER.Co{e e':Env}(r:ER s n F h e e'):∀{l:List bx},kf l=true→dj e l=true→aX s n F h (l.map e.ev) (l.map e'.ev)
 |[],_,_=>.nil
 |.c v::l,hc,hj=>by
  simp only[kf,Bool.and_eq_true] at hc;exact .cons (.dU hc.1) (r.Co hc.2 hj)
 |.t i::l,hc,hj=>by
  simp only[kf,Bool.and_eq_true] at hc;simp only[dj,Bool.and_eq_true] at hj;obtain⟨v,hv⟩:=Option.isSome_iff_exists.1 hj.1;have:=r i v hv;rw[←Cv hv] at this;exact .cons this (r.Co hc.2 hj.2)
theorem ER.ev{e e':Env}(r:ER s n F h e e'){x:bx}(hc:D4 x=true)(hj:dj e [x]=true):Rel s n F h (e.ev x) (e'.ev x):=by
 have:=r.Co (l:=[x]) (by simp[kf,hc]) hj;exact this.2 0 _ _ rfl rfl
def HZ:pQ→Bool
 |.build zs _=>kS zs
 |.nZ _ _ z=>z.pl
 |.ec fn _=>(match fn with|.yield _=>false|_=>true)
 |_=>true
def CR:fG→Bool
 |.p o=>HZ o
 |.a (.alloc zs)=>kS zs
 |.a (.aY zs _ _ _)=>kS zs
 |.a (.eG zs _ _)=>kS zs
 |.r (.lookup _ z)=>z.pl
 |.e (.clear zs)=>kS zs
 |_=>true
def jF:List bp→Bool
 |[]=>true
 |i::l=>CR i.op&&kf i.args&&jF l
def eS:AC→Bool
 |.ops l=>jF l
 |.bI l _=>jF l
 |.seq a b=>eS a&&eS b
 |.cond c a b=>D4 c&&eS a&&eS b
 |.block _ c=>eS c
 |.loop c=>eS c
 |.rangeFunc g _ a b=>D4 g&&eS a&&eS b
 |_=>true
def rB(s:Nat→Nat)(n:Nat)(F:Nat→Prop)(h:Heap)(l l':List (AV×AV)):Prop:=
 l.length=l'.length∧∀(i:Nat) (p q:AV×AV),l[i]?=some p→l'[i]?=some q→Rel s n F h p.1 q.1∧Rel s n F h p.2 q.2
inductive BR(s:Nat→Nat)(n:Nat)(F:Nat→Prop)(h:Heap):bP→bP→Prop where
 |cells {vs vs' wr wr' es}:aX s n F h vs vs'→(wr=true→wr'=true)→BR s n F h (.cells vs wr es) (.cells vs' wr' es)
 |map {l l' bs c}:rB s n F h l l'→BR s n F h (.map l bs c) (.map l' bs c)
 |loop {st cw e e' ps a b}:ER s n F h e e'→eS a=true→eS b=true→BR s n F h (.loop st cw e ps a b) (.loop st cw e' ps a b)
 |defers:BR s n F h .defers .defers
theorem BR.mono{x y:bP}(r:BR s n F h x y)(hs:∀b,b<n→s' b=s b)(hn:n≤n')(hF:∀b,F b→F' b)(hh:∀b,F b→h'.get b=h.get b):BR s' n' F' h' x y:=by
 cases r with
 |cells h1 h2=>exact .cells (h1.mono hs hn hF hh) h2
 |map h1=>exact .map ⟨h1.1,fun i p q hp hq=>⟨(h1.2 i p q hp hq).1.mono hs hn hF hh,(h1.2 i p q hp hq).2.mono hs hn hF hh⟩⟩
 |loop h1 h2 h3=>exact .loop (h1.mono hs hn hF hh) h2 h3
 |defers=>exact .defers
structure HR(s:Nat→Nat)(F:Nat→Prop)(g h:Heap):Prop where
 top:∀b,g.next≤b→g.get b=none
 qz:∀b,h.next≤b→h.get b=none
 nG:∀b,F b→b<h.next
 bH:∀b x,g.get b=some x→∃y,h.get (s b)=some y∧BR s g.next F h x y
 inj:∀b c,g.get b≠none→g.get c≠none→s b=s c→b=c
 own:∀b,g.get b≠none→¬F (s b)
theorem HR.lt{g h:Heap}(r:HR s F g h){b:Nat}(hb:g.get b≠none):b<g.next:=by
 by_cases hl:b<g.next
 ·exact hl
 ·exact absurd (r.top b (by omega)) hb
theorem HR.slt{g h:Heap}(r:HR s F g h){b:Nat}(hb:g.get b≠none):s b<h.next:=by
 cases hx:g.get b with
 |none=>exact absurd hx hb
 |some x=>
  obtain⟨y,hy,_⟩:=r.bH b x hx;by_cases hl:s b<h.next
  ·exact hl
  ·rw[r.qz _ (by omega)] at hy;simp at hy
structure Out(B:Nat)(s:Nat→Nat)(F:Nat→Prop)(g h:Heap)(s1:Nat→Nat)(F1:Nat→Prop)(g1 h1:Heap):Prop where
 hr:HR s1 F1 g1 h1
 next:B≤g1.next
 hnext:h.next≤h1.next
 bA:∀b,b<B→s1 b=s b
 sub:∀b,F b→F1 b
 new:∀b,F1 b→b<h.next→F b∨∃c,g.get c≠none∧s c=b
 xw:∀b,b<h.next→(∀c,g.get c≠none→s c≠b)→h1.get b=h.get b
 fresh:∀c,B≤c→g1.get c≠none→h.next≤s1 c∨∃c0,g.get c0≠none∧s c0=s1 c
 old:∀c,c<B→g1.get c≠none→g.get c≠none
 loops:∀b st p e ps a c,h.get b=some (.loop st p e ps a c)→∃st' p',h1.get b=some (.loop st' p' e ps a c)
theorem Out.jV{B:Nat}{g h:Heap}{s1:Nat→Nat}{F1:Nat→Prop}{g1 h1:Heap}(o:Out B s F g h s1 F1 g1 h1)(r:HR s F g h):∀b,F b→h1.get b=h.get b:=
 fun b hb=>o.xw b (r.nG b hb) fun c hc e=>r.own c hc (e▸hb)
theorem Out.refl{g h:Heap}(r:HR s F g h){B:Nat}(hB:B≤g.next):Out B s F g h s F g h where
 hr:=r
 next:=hB
 hnext:=Nat.le_refl _
 bA:=fun _ _=>rfl
 sub:=fun _=>id
 new:=fun b hb _=>.inl hb
 xw:=fun _ _ _=>rfl
 fresh:=fun c hc hn=>.inr ⟨c,hn,rfl⟩
 old:=fun c _=>id
 loops:=fun b st p e ps a c hb=>⟨st,p,hb⟩
theorem Out.weaken{B B':Nat}{g h:Heap}{s1:Nat→Nat}{F1:Nat→Prop}{g1 h1:Heap}(x:Out B s F g h s1 F1 g1 h1)(hB:B'≤B):Out B' s F g h s1 F1 g1 h1 where
 hr:=x.hr
 next:=Nat.le_trans hB x.next
 hnext:=x.hnext
 bA:=fun b hb=>x.bA b (Nat.lt_of_lt_of_le hb hB)
 sub:=x.sub
 new:=x.new
 xw:=x.xw
 fresh:=by
  intro c hc hn;by_cases hlt:c<B
  ·exact .inr ⟨c,x.old c hlt hn,(x.bA c hlt).symm⟩
  ·exact x.fresh c (by omega) hn
 old:=fun c hc hn=>x.old c (Nat.lt_of_lt_of_le hc hB) hn
 loops:=x.loops
theorem Out.trans{B:Nat}{g h:Heap}{s1 s2:Nat→Nat}{F1 F2:Nat→Prop}{g1 h1 g2 h2:Heap}(r:HR s F g h)(x:Out B s F g h s1 F1 g1 h1)(y:Out B s1 F1 g1 h1 s2 F2 g2 h2):Out B s F g h s2 F2 g2 h2 where
 hr:=y.hr
 next:=y.next
 hnext:=Nat.le_trans x.hnext y.hnext
 bA:=fun b hb=>(y.bA b hb).trans (x.bA b hb)
 sub:=fun b hb=>y.sub b (x.sub b hb)
 new:=by
  intro b hb hl;rcases y.new b hb (Nat.lt_of_lt_of_le hl x.hnext) with hf|⟨c,hc,he⟩
  ·exact x.new b hf hl
  ·by_cases hlt:c<B
   ·exact .inr ⟨c,x.old c hlt hc,by rw[←x.bA c hlt];exact he⟩
   ·rcases x.fresh c (by omega) hc with h1|⟨c0,h1,h2⟩
    ·omega
    ·exact .inr ⟨c0,h1,h2.trans he⟩
 xw:=by
  intro b hl hb;rw[y.xw b (Nat.lt_of_lt_of_le hl x.hnext),x.xw b hl hb];intro c hc he;by_cases hlt:c<B
  ·exact hb c (x.old c hlt hc) (by rw[←x.bA c hlt];exact he)
  ·rcases x.fresh c (by omega) hc with h1|⟨c0,h1,h2⟩
   ·omega
   ·exact hb c0 h1 (h2.trans he)
 fresh:=by
  intro c hc hn;rcases y.fresh c hc hn with h1|⟨c1,h1,h2⟩
  ·exact .inl (Nat.le_trans x.hnext h1)
  ·by_cases hlt:c1<B
   ·exact .inr ⟨c1,x.old c1 hlt h1,by rw[←x.bA c1 hlt];exact h2⟩
   ·rcases x.fresh c1 (by omega) h1 with h3|⟨c0,h3,h4⟩
    ·exact .inl (by omega)
    ·exact .inr ⟨c0,h3,h4.trans h2⟩
 old:=fun c hc hn=>x.old c hc (y.old c hc hn)
 loops:=by
  intro b st p e ps a c hb;obtain⟨st',p',h1⟩:=x.loops b st p e ps a c hb;exact y.loops b st' p' e ps a c h1
end
end Ads
end Go.Proofs.YtmnolnoeibhjgaaGreat
