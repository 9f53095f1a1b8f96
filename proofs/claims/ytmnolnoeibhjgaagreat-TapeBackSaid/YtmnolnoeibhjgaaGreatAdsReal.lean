/-
  How abstract values, environments and heaps stand to the model's: 'real', 'Inv', 'Ext', and what follows for single steps on the heap.
-/
import Derived.Test.YtmnolnoeibhjgaaGreatAdsDef
import Derived.WalkKit
namespace Go.Proofs.YtmnolnoeibhjgaaGreat
namespace Ads
structure Loc where
 bH:Nat
 off:Nat
 extra:Nat
 deriving Inhabited
abbrev cG:=Nat→Loc
mutual
def real(ρ:cG):AV→Value
 |.bool b=>.bool b
 |.int k n=>.int k n
 |.str s=>.string ⟨s.toArray⟩
 |.ptr b o=>.pointer (some ⟨(ρ b).bH,(ρ b).off+o,none⟩)
 |.bJ=>.pointer none
 |.sl b o len cap jv=>.slice (some ⟨(ρ b).bH,(ρ b).off+o,none⟩) len (cond jv (cap+(ρ b).extra) cap)
 |.az=>.slice none 0 0
 |.fE a=>.slice (some a) 0 0
 |.map b=>.map (some (ρ b).bH)
 |.jg=>.map none
 |.func fn first aO=>.func fn (aq ρ first).toArray (aq ρ aO).toArray
 |.iZ=>.nilFunc
 |.yield b=>.func (.yield (ρ b).bH) #[] #[]
 |.iface t v=>.iface t (real ρ v)
 |.ja=>.nilIface
 |.agg cs=>.agg (aq ρ cs).toArray
 |.dO vs=>.tuple (aq ρ vs).toArray
 |.fz _ _=>.nilIface
 |.fp _ _=>.nilIface
 |.rest b o k=>.slice (some ⟨(ρ b).bH,(ρ b).off+(o+cond (Nat.beq (ρ b).extra 0) 0 k),none⟩) 0 (ρ b).extra
def aq(ρ:cG):List AV→List Value
 |[]=>[]
 |v::vs=>real ρ v::aq ρ vs
end
abbrev Dom:=Nat→Prop
mutual
def AV.aW(D:Dom):AV→Prop
 |.ptr b _=>D b
 |.sl b _ _ _ _=>D b
 |.rest b _ _=>D b
 |.map b=>D b
 |.yield b=>D b
 |.func fn first aO=>(∀l,fn≠.yield l)∧bl D first∧bl D aO
 |.iface _ v=>v.aW D
 |.agg cs=>bl D cs
 |.dO vs=>bl D vs
 |.fz _ _=>False
 |.fp _ _=>False
 |_=>True
def bl(D:Dom):List AV→Prop
 |[]=>True
 |v::vs=>v.aW D∧bl D vs
end
theorem cH(ρ:cG):∀l:List AV,aq ρ l=l.map (real ρ)
 |[]=>by simp[aq]
 |v::vs=>by simp[aq,cH ρ vs]
theorem aN(D:Dom):∀l:List AV,bl D l↔∀v∈l,v.aW D
 |[]=>by simp[bl]
 |v::vs=>by simp[bl,aN D vs]
mutual
theorem cn{ρ ρ':cG}{D:Dom}(h:∀b,D b→ρ' b=ρ b):∀v:AV,v.aW D→real ρ' v=real ρ v
 |.bool _,_|.int _ _,_|.str _,_|.bJ,_|.az,_|.fE _,_|.jg,_|.iZ,_|.ja,_=>by simp[real]
 |.ptr b o,hv=>by simp[real,h b (by simpa[AV.aW] using hv)]
 |.sl b o l c op,hv=>by simp[real,h b (by simpa[AV.aW] using hv)]
 |.rest b o k,hv=>by simp[real,h b (by simpa[AV.aW] using hv)]
 |.map b,hv=>by simp[real,h b (by simpa[AV.aW] using hv)]
 |.yield b,hv=>by simp[real,h b (by simpa[AV.aW] using hv)]
 |.func fn first aO,hv=>by
  simp only[AV.aW] at hv;simp only[real,ep h first hv.2.1,ep h aO hv.2.2]
 |.iface t v,hv=>by
  simp only[AV.aW] at hv;simp only[real,cn h v hv]
 |.agg cs,hv=>by
  simp only[AV.aW] at hv;simp only[real,ep h cs hv]
 |.dO cs,hv=>by
  simp only[AV.aW] at hv;simp only[real,ep h cs hv]
 |.fz _ _,hv=>by simp only[AV.aW] at hv
 |.fp _ _,hv=>by simp only[AV.aW] at hv
theorem ep{ρ ρ':cG}{D:Dom}(h:∀b,D b→ρ' b=ρ b):∀l:List AV,bl D l→aq ρ' l=aq ρ l
 |[],_=>by simp[aq]
 |v::vs,hv=>by
  simp only[bl] at hv;simp only[aq,cn h v hv.1,ep h vs hv.2]
end
mutual
theorem cO{D D':Dom}(h:∀b,D b→D' b):∀v:AV,v.aW D→v.aW D'
 |.bool _,_|.int _ _,_|.str _,_|.bJ,_|.az,_|.fE _,_|.jg,_|.iZ,_|.ja,_=>by simp[AV.aW]
 |.ptr b o,hv=>by simp only[AV.aW] at*;exact h _ hv
 |.sl b o l c op,hv=>by simp only[AV.aW] at*;exact h _ hv
 |.rest b o k,hv=>by simp only[AV.aW] at*;exact h _ hv
 |.map b,hv=>by simp only[AV.aW] at*;exact h _ hv
 |.yield b,hv=>by simp only[AV.aW] at*;exact h _ hv
 |.func fn first aO,hv=>by
  simp only[AV.aW] at*;exact⟨hv.1,jy h first hv.2.1,jy h aO hv.2.2⟩
 |.iface t v,hv=>by
  simp only[AV.aW] at*;exact cO h v hv
 |.agg cs,hv=>by
  simp only[AV.aW] at*;exact jy h cs hv
 |.dO cs,hv=>by
  simp only[AV.aW] at*;exact jy h cs hv
 |.fz _ _,hv=>by simp only[AV.aW] at hv
 |.fp _ _,hv=>by simp only[AV.aW] at hv
theorem jy{D D':Dom}(h:∀b,D b→D' b):∀l:List AV,bl D l→bl D' l
 |[],_=>by simp[bl]
 |v::vs,hv=>by
  simp only[bl] at*;exact⟨cO h v hv.1,jy h vs hv.2⟩
end
theorem dM(ρ:cG)(v:AV):(real ρ v).cells=(aq ρ v.cells).toArray:=by
 cases v<;>simp[real,Value.cells,AV.cells,aq]
theorem iU{D:Dom}{v:AV}(h:v.aW D):bl D v.cells:=by
 cases v<;>simp_all[AV.cells,AV.aW,bl]
namespace Tr
variable {α:Type}
theorem get_nil(n:Nat):(Tr.nil:Tr α).get n=none:=rfl
theorem vu(t:Tr α):t.get 0=t.val:=by cases t<;>simp[get,val]
theorem gZ(t:Tr α)(n:Nat)(h:n%2=1):t.get n=t.left.get (n/2):=by
 cases t with
 |nil=>simp[get,left]
 |node l v r=>
  have h0:Nat.beq n 0=false:=by cases n with|zero=>simp at h|succ n=>rfl
  simp[get,left,h0,h]
theorem eT(t:Tr α)(n:Nat)(h:n%2=0)(h0:n≠0):t.get n=t.right.get (n/2-1):=by
 cases t with
 |nil=>simp[get,right]
 |node l v r=>
  have h0:Nat.beq n 0=false:=by cases n with|zero=>simp at h0|succ n=>rfl
  have h1:Nat.beq 0 1=false:=rfl;simp[get,right,h0,h,h1]
theorem ze(x:Option α):∀(f:Nat) (t:Tr α) (n m:Nat),n<f→(put x f t n).get m=if m=n then x else t.get m:=by
 intro f;induction f with
 |zero=>intro t n m h;omega
 |succ f ih=>
  intro t n m h;unfold put;by_cases hn:n=0
  ·subst hn;simp only[show Nat.beq 0 0=true from rfl,cond_true];by_cases hm:m=0
   ·subst hm;simp[vu,val]
   ·rw[if_neg hm];rcases Nat.mod_two_eq_zero_or_one m with h2|h2
    ·rw[eT _ _ h2 hm,eT _ _ h2 hm];rfl
    ·rw[gZ _ _ h2,gZ _ _ h2];rfl
  ·have hb:Nat.beq n 0=false:=by cases n with|zero=>simp at hn|succ n=>rfl
   rcases Nat.mod_two_eq_zero_or_one n with h2|h2
   ·have hc:Nat.beq (n%2) 1=false:=by rw[h2];rfl
    simp only[hb,hc,cond_false];by_cases hm:m=0
    ·subst hm;rw[if_neg (by omega)];simp[vu,val]
    ·rcases Nat.mod_two_eq_zero_or_one m with h3|h3
     ·rw[eT _ _ h3 hm,eT t _ h3 hm];simp only[right];rw[ih _ _ _ (by omega)];by_cases he:m=n
      ·subst he;simp
      ·rw[if_neg he,if_neg (by omega)]
     ·rw[gZ _ _ h3,gZ t _ h3,if_neg (by omega)];cases t<;>rfl
   ·have hc:Nat.beq (n%2) 1=true:=by rw[h2];rfl
    simp only[hb,hc,cond_false,cond_true];by_cases hm:m=0
    ·subst hm;rw[if_neg (by omega)];simp[vu,val]
    ·rcases Nat.mod_two_eq_zero_or_one m with h3|h3
     ·rw[eT _ _ h3 hm,eT t _ h3 hm,if_neg (by omega)];cases t<;>rfl
     ·rw[gZ _ _ h3,gZ t _ h3];simp only[left];rw[ih _ _ _ (by omega)];by_cases he:m=n
      ·subst he;simp
      ·rw[if_neg he,if_neg (by omega)]
theorem aT(t:Tr α)(n m:Nat)(x:α):(t.set n x).get m=if m=n then some x else t.get m:=ze _ _ _ _ _ (by omega)
theorem cJ(t:Tr α)(n m:Nat):(t.del n).get m=if m=n then none else t.get m:=ze _ _ _ _ _ (by omega)
end Tr
namespace Heap
theorem bT(h:Heap)(x:bP)(b:Nat):(h.new x).get b=if b=h.next then some x else h.get b:=Tr.aT _ _ _ _
theorem aT(h:Heap)(c:Nat)(x:bP)(b:Nat):(h.set c x).get b=if b=c then some x else h.get b:=Tr.aT _ _ _ _
theorem cJ(h:Heap)(c:Nat)(b:Nat):(h.del c).get b=if b=c then none else h.get b:=Tr.cJ _ _ _
@[simp] theorem HK (h:Heap) (x:bP):(h.new x).next=h.next+1:=rfl
@[simp] theorem St (h:Heap) (c:Nat) (x:bP):(h.set c x).next=h.next:=rfl
@[simp] theorem HJ (h:Heap) (c:Nat):(h.del c).next=h.next:=rfl
def wr(h:Heap)(b:Nat):Bool:=
 match h.get b with
 |some (.cells _ wr _)=>wr
 |some _=>true
 |none=>false
theorem dB{α:Type}:∀(vs:List α) (o:Nat) (xs:List α),(splice vs o xs).length=vs.length
 |[],0,[]=>rfl
 |[],0,_::_=>rfl
 |[],_+1,_=>rfl
 |v::vs,0,[]=>rfl
 |_::vs,0,_::xs=>by simp[splice,dB vs 0 xs]
 |_::vs,o+1,xs=>by simp[splice,dB vs o xs]
theorem ew{α:Type}:∀(vs:List α) (o:Nat) (xs:List α) (i:Nat),o+xs.length≤vs.length→
  (splice vs o xs)[i]?=if o≤i∧i<o+xs.length then xs[i-o]? else vs[i]?
 |[],0,[],i,_=>by simp[splice]
 |[],0,_::_,i,h=>by simp at h
 |[],_+1,_,i,h=>by simp at h
 |v::vs,0,[],i,_=>by simp[splice]
 |_::vs,0,x::xs,i,h=>by
  simp only[splice];cases i with
  |zero=>simp
  |succ i=>
   simp only[List.getElem?_cons_succ];rw[ew vs 0 xs i (by simp at h⊢;omega)];by_cases hi:i<xs.length
   ·rw[if_pos ⟨by omega,by omega⟩,if_pos ⟨by omega,by simp;omega⟩];simp
   ·rw[if_neg (by omega),if_neg (by simp;omega)]
 |v::vs,o+1,xs,i,h=>by
  simp only[splice];cases i with
  |zero=>simp
  |succ i=>
   simp only[List.getElem?_cons_succ];rw[ew vs o xs i (by simp at h⊢;omega)];by_cases hi:o≤i∧i<o+xs.length
   ·rw[if_pos hi,if_pos (by omega)];congr 1;omega
   ·rw[if_neg hi,if_neg (by omega)]
end Heap
section
variable (P:Program) (H0:Nat)
def Bf(ρ:cG)(D:Dom)(st:Nat)(cw:Option AX)(e:Env)(ps:List Nat)(a b:AC)(l:Loop):Prop:=
 l.state=(match st with|0=>.ready|1=>.busy|2=>.done|_=>.exhausted)∧
 (match cw with
  |none=>l.pending=none
  |some (.exit id)=>l.pending=some (.exit id)
  |some .ret=>l.pending=some .ret
  |_=>False)∧
 (∀i,l.tmps.getD i Go.undef=real ρ (e.get i))∧(∀i,(e.get i).aW D)∧
 l.params.toList=ps∧aE P l.assign=a∧aE P l.body=b∧codeOk l.tmps.size a=true∧codeOk l.tmps.size b=true∧oJ l.tmps.size ps=true
def ei(ρ:cG)(D:Dom)(L:Loc)(x:bP)(w:World):Prop:=
 match x with
 |.cells vs wr es=>∃c t fr,w.heap[L.bH]?=some (.cells c t fr)∧
   (∀i v,vs[i]?=some v→c[L.off+i]?=some (real ρ v)∧v.aW D)∧
   (wr=true→H0≤L.bH∧L.off+vs.length+L.extra*es≤c.size∧∀i,fr.1≤i→i<fr.2→c.size≤i)
 |.map es bs k=>∃ms clock,w.heap[L.bH]?=some (.map ms clock)∧H0≤L.bH∧
   ms.toList.map (fun m=>(m.key,m.val))=es.map (fun p=>(real ρ p.1,real ρ p.2))∧(∀p∈es,p.1.aW D∧p.2.aW D)∧clock=k∧ms.toList.map (fun m=>m.born)=bs
 |.iter m since seen last=>H0≤L.bH∧D m∧L.off=0∧∃sn,w.heap[L.bH]?=some (.mapIter (some (ρ m).bH) since sn last)∧sn.toList=seen
 |.loop st cw e ps a b=>H0≤L.bH∧∃l,w.heap[L.bH]?=some (.loop l)∧Bf P ρ D st cw e ps a b l
 |.defers=>H0≤L.bH∧w.heap[L.bH]?=some (.deferred (some []))
structure Inv(ρ:cG)(D:Dom)(h:Heap)(w:World):Prop where
 lt:∀b,D b→b<h.next
 top:∀b,h.next≤b→h.get b=none
 low:H0≤w.heap.size
 bH:∀b x,D b→h.get b=some x→ei P H0 ρ D (ρ b) x w
 apart:∀b b',D b→D b'→b≠b'→h.wr b=true→h.get b'≠none→(ρ b).bH≠(ρ b').bH
structure Ext(ρ:cG)(D:Dom)(h:Heap)(w:World)(ρ':cG)(h':Heap)(w':World):Prop where
 next:h.next≤h'.next
 bA:∀b,D b→ρ' b=ρ b
 size:w.heap.size≤w'.heap.size
 frame:∀r,r<w.heap.size→(∀b,D b→h.wr b=true→(ρ b).bH≠r)→w'.heap[r]?=w.heap[r]?
 iz:∀b,b<h.next→¬D b→h'.get b=h.get b
 old:∀b,b<h.next→h'.get b≠none→h.get b≠none∧(h'.wr b=true→h.wr b=true)
 fresh:∀b,h.next≤b→b<h'.next→w.heap.size≤(ρ' b).bH∨∃b0,D b0∧h.wr b0=true∧(ρ b0).bH=(ρ' b).bH
 tape:w'.tape=w.tape
 os:w'.os=w.os
 output:w'.output=w.output
end
def grow(D:Dom)(n n':Nat):Dom:=fun b=>D b∨(n≤b∧b<n')
theorem bn(D:Dom)(n:Nat):grow D n n=D:=by
 funext b;simp only[grow,eq_iff_iff];constructor
 ·rintro(h|h)
  ·exact h
  ·omega
 ·exact Or.inl
theorem dH(D:Dom){a b c:Nat}(h:a≤b)(h':b≤c):grow (grow D a b) b c=grow D a c:=by
 funext x;simp only[grow,eq_iff_iff];constructor
 ·rintro((h|h)|h)
  ·exact .inl h
  ·exact .inr (by omega)
  ·exact .inr (by omega)
 ·rintro(h|h)
  ·exact .inl (.inl h)
  ·by_cases hx:x<b
   ·exact .inl (.inr ⟨h.1,hx⟩)
   ·exact .inr (by omega)
section
variable {P:Program} {H0:Nat} {ρ ρ' BQ:cG} {D:Dom} {h h' h'':Heap} {w w' w'':World}
theorem Heap.eu{b:Nat}(hw:h.wr b=true):h.get b≠none:=by
 unfold Heap.wr at hw;intro e;simp[e] at hw
theorem Ext.refl(ρ:cG)(D:Dom)(h:Heap)(w:World):Ext ρ D h w ρ h w where
 next:=Nat.le_refl _
 bA:=fun _ _=>rfl
 size:=Nat.le_refl _
 frame:=fun _ _ _=>rfl
 iz:=fun _ _ _=>rfl
 old:=fun _ _ hb=>⟨hb,id⟩
 fresh:=fun _ h1 h2=>by omega
 tape:=rfl
 os:=rfl
 output:=rfl
theorem Ext.trans(hlt:∀b,D b→b<h.next)(x:Ext ρ D h w ρ' h' w')
  (y:Ext ρ' (grow D h.next h'.next) h' w' BQ h'' w''):Ext ρ D h w BQ h'' w'' where
 next:=Nat.le_trans x.next y.next
 bA:=fun b hb=>(y.bA b (.inl hb)).trans (x.bA b hb)
 size:=Nat.le_trans x.size y.size
 frame:=by
  intro r hr hb;rw[y.frame r (Nat.lt_of_lt_of_le hr x.size),x.frame r hr hb];rintro b (hd|⟨h1,h2⟩) gp
  ·rw[x.bA b hd];refine hb b hd ?_;exact(x.old b (hlt b hd) (Heap.eu gp)).2 gp
  ·rcases x.fresh b h1 h2 with hf|⟨b0,hd,JU,he⟩
   ·omega
   ·rw[←he];exact hb b0 hd JU
 iz:=by
  intro b hb hd;rw[y.iz b (Nat.lt_of_lt_of_le hb x.next),x.iz b hb hd];rintro(h1|h1)
  ·exact hd h1
  ·omega
 old:=by
  intro b hb hn;have h1:=y.old b (Nat.lt_of_lt_of_le hb x.next) hn;have h2:=x.old b hb h1.1;exact⟨h2.1,fun hw=>h2.2 (h1.2 hw)⟩
 fresh:=by
  intro b h1 h2;by_cases hb:b<h'.next
  ·rw[y.bA b (.inr ⟨h1,hb⟩)];exact x.fresh b h1 hb
  ·rcases y.fresh b (by omega) h2 with hf|⟨b0,hd,JU,he⟩
   ·exact .inl (Nat.le_trans x.size hf)
   ·rcases hd with hd|⟨h3,h4⟩
    ·refine .inr ⟨b0,hd,?_,?_⟩
     ·exact(x.old b0 (hlt b0 hd) (Heap.eu JU)).2 JU
     ·rw[←he,x.bA b0 hd]
    ·rw[←he];exact x.fresh b0 h3 h4
 tape:=y.tape.trans x.tape
 os:=y.os.trans x.os
 output:=y.output.trans x.output
theorem gy{L:Loc}{x:bP}(hx:ei P H0 ρ D L x w):L.bH<w.heap.size:=by
 cases x with
 |cells vs wr es=>obtain⟨c,t,fr,hc,_⟩:=hx;exact(Array.getElem?_eq_some_iff.1 hc).1
 |map es bs k=>obtain⟨ms,k,hc,_⟩:=hx;exact(Array.getElem?_eq_some_iff.1 hc).1
 |iter m since seen last=>obtain⟨_,_,_,sn,hc,_⟩:=hx;exact(Array.getElem?_eq_some_iff.1 hc).1
 |loop st cw e ps a b=>obtain⟨_,l,hc,_⟩:=hx;exact(Array.getElem?_eq_some_iff.1 hc).1
 |defers=>obtain⟨_,hc⟩:=hx;exact(Array.getElem?_eq_some_iff.1 hc).1
theorem Inv.J3(i:Inv P H0 ρ D h w){b:Nat}(hd:D b)(hb:h.get b≠none):(ρ b).bH<w.heap.size:=by
 cases hx:h.get b with
 |none=>exact absurd hx hb
 |some x=>exact gy (i.bH b x hd hx)
theorem Inv.SY(i:Inv P H0 ρ D h w):∀b,D b→h.wr b=true→(ρ b).bH<w.heap.size:=fun _ hd hw=>i.J3 hd (Heap.eu hw)
theorem Inv.ZU(i:Inv P H0 ρ D h w){b:Nat}(hd:D b)(hw:h.wr b=true):H0≤(ρ b).bH:=by
 have hn:=Heap.eu hw;cases hx:h.get b with
 |none=>exact absurd hx hn
 |some x=>
  have:=i.bH b x hd hx;cases x with
  |cells vs wr es=>
   obtain⟨c,t,fr,_,_,h3⟩:=this;simp[Heap.wr,hx] at hw;exact(h3 hw).1
  |map es bs k=>obtain⟨ms,k,_,h2,_⟩:=this;exact h2
  |iter m since seen last=>exact this.1
  |loop st cw e ps a b=>exact this.1
  |defers=>exact this.1
theorem bR{D':Dom}{L:Loc}{x:bP}(hx:ei P H0 ρ D L x w)(hD:∀b,D b→D' b)(ha:∀b,D b→ρ' b=ρ b)(hh:w'.heap[L.bH]?=w.heap[L.bH]?):
  ei P H0 ρ' D' L x w':=by
 cases x with
 |cells vs wr es=>
  obtain⟨c,t,fr,hc,h1,h2⟩:=hx;refine⟨c,t,fr,hh.trans hc,fun i v hv=>?_,h2⟩;have:=h1 i v hv;exact⟨by rw[cn ha v this.2];exact this.1,cO hD v this.2⟩
 |iter m since seen last=>
  obtain⟨h0,h1,h3,sn,hc,h2⟩:=hx;exact⟨h0,hD m h1,h3,sn,by rw[ha m h1];exact hh.trans hc,h2⟩
 |map es bs k=>
  obtain⟨ms,k,hc,h0,h1,h2,h3⟩:=hx;refine⟨ms,k,hh.trans hc,h0,?_,fun p hp=>⟨cO hD _ (h2 p hp).1,cO hD _ (h2 p hp).2⟩,h3⟩;rw[h1];refine List.map_congr_left fun p hp=>?_;rw[cn ha _ (h2 p hp).1,cn ha _ (h2 p hp).2]
 |loop st cw e ps a b=>
  obtain⟨h0,l,hc,h1,h2,h3,h4,h5⟩:=hx;exact⟨h0,l,hh.trans hc,h1,h2,fun i=>by rw[cn ha _ (h4 i)];exact h3 i,fun i=>cO hD _ (h4 i),h5⟩
 |defers=>exact⟨hx.1,hh.trans hx.2⟩
end
end Ads
end Go.Proofs.YtmnolnoeibhjgaaGreat
