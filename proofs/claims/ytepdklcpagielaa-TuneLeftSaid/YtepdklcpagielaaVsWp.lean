/-
  What code must come to in Vs, as a proposition that is worked out from the code.
-/
import Derived.Test.YtepdklcpagielaaVsSim
import Derived.Test.YtepdklcpagielaaAdsEvalX
set_option linter.unusedSimpArgs false
set_option linter.unusedVariables false
namespace Go.Proofs.Ytepdklcpagielaa
namespace Ads
abbrev kU{α:Type}(o:Option α)(k:α→Prop):Prop:=@Option.rec α (fun _=>Prop) False k o
theorem sZ{α:Type}{o:Option α}{k:α→Prop}{v:α}(h:o=some v)(hk:k v):@Option.rec α (fun _=>Prop) False k o:=by rw[h];exact hk
section
variable (fs:Nat→Option aB) (ms:Nat→String→Option Nat) (B:Nat) (rd:Bool) (z:Bool)
def VC(c:AC)(e:Env)(h:Heap)(Q:AX→Env→Heap→Prop):Prop:=∃x e' h',VS fs ms B (.code rd c e h) (.code x e' h')∧Q x e' h'
def VO(l:List bK)(e:Env)(h:Heap)(Q:Env→Heap→Prop):Prop:=∃tr e' h',VS fs ms B (.ops rd l e h) (.ops tr e' h')∧Q e' h'
def VD(f:Nat)(args:List AV)(h:Heap)(Q:AV→Heap→Prop):Prop:=∃v h',(∀B,VS fs ms B (.call f args h) (.val v h'))∧Q v h'
def Uj(e:Env)(r:bV)(k:AV→Prop):Prop:=match r with
 |.t i=>match Tr.get e i with
  |some v=>k v
  |none=>False
 |.c v=>k v
def v7(e:Env)(l:List bV):(List AV→Prop)→Prop:=
 List.rec (motive:=fun _=>(List AV→Prop)→Prop) (fun k=>k []) (fun r _ ih k=>Uj e r fun v=>ih fun vs=>k (v::vs)) l
def PM(h:Heap)(x:dm)(k:Nat→Heap→Prop):Prop:=match z with
 |true=>k h.next (h.new x)
 |false=>match h with
  |⟨n,m⟩=>EN m n x fun t=>k n ⟨n+1,t⟩
def TH(h:Heap)(b:Nat)(x:dm)(k:Heap→Prop):Prop:=match z with
 |true=>k (h.set b x)
 |false=>match h with
  |⟨n,m⟩=>EN m b x fun t=>k ⟨n,t⟩
def GM(h:Heap)(b o:Nat)(xs:List AV)(k:Heap→Prop):Prop:=match h.get b with
 |some (.cells vs true es)=>Ch (Nat.ble (o+xs.length) vs.length&&bx xs) (TH z h b (.cells (Heap.splice vs o xs) true es) k) False
 |_=>False
def Mc(n:Nat)(vals:List AV)(h:Heap)(k:AV→Prop):Prop:=match vals with
 |[.fp cs o]=>Ch (Nat.beq o 0&&Nat.beq n cs.length) (k (.agg cs)) (kU (rV (.bn n) [.fp cs o] h) k)
 |vals=>kU (rV (.bn n) vals h) k
def Xi(o:sH)(vals:List AV):Bool:=
 match o with
 |.bin op=>match vals with
  |.str _::_=>match op with
   |.add=>false
   |_=>true
  |_=>match op with
   |.quo|.rem|.shl|.shr=>false
   |_=>true
 |.aE _|.bT _ _|.IZ _ _ _|.I0|.slice _ _ _ _|.nS _ _|.iY _ _ _ _ _=>false
 |_=>true
def uJ(o:gP)(vals:List AV)(h:Heap)(k:AV→Heap→Prop):Prop:=
 match o with
 |.p o=>match o with
  |.pick=>match vals with
   |[.bool c,a,b]=>Ch c (k a h) (k b h)
   |_=>False
  |o=>match Xi o vals with
   |true=>kU (pV o vals) fun v=>k v h
   |false=>∃v,pV o vals=some v∧k v h
 |.a o=>match o with
  |.m0 zs n b=>∃x f,aI (.m0 zs n b) vals=some (x,f)∧PM z h x fun b h1=>k (f b) h1
  |o=>match YE o vals with
   |some (x,f)=>PM z h x fun b h1=>k (f b) h1
   |none=>False
 |.r o=>match z with
  |true=>∃v,rV o vals h=some v∧k v h
  |false=>match o with
   |.bn n=>Mc n vals h fun v=>k v h
   |o=>kU (rV o vals h) fun v=>k v h
 |.e o=>match z with
  |true=>∃v h1,eV o vals h=some (v,h1)∧k v h1
  |false=>match o with
   |.store n=>match vals with
    |[.ptr b o,v]=>Ch (Nat.beq v.cells.length n) (GM z h b o v.cells fun h1=>k .undef h1) False
    |_=>False
   |o=>∃v h1,eV o vals h=some (v,h1)∧k v h1
 |.call=>match vals with
  |.func (.func f) first aN::args=>VD fs ms f (first++(args++aN)) h k
  |fv::args=>∃v h1,(∀B,VS fs ms B (.dw fv args h) (.val v h1))∧k v h1
  |[]=>False
 |.invoke name=>match vals with
  |.iface t x::args=>match ms t name with
   |some f=>VD fs ms f (x::args) h k
   |none=>False
  |_=>False
 |_=>False
def T4(i:bK)(ih:Env→Heap→(Env→Heap→Prop)→Prop)(e:Env)(h:Heap)(k:Env→Heap→Prop):Prop:=match i.guard with
  |none=>v7 e i.args fun vals=>uJ fs ms z i.op vals h fun v h1=>ju e i.dst v fun e1=>ih e1 h1 k
  |some (d,want)=>match Tr.get e d with
   |some (.bool b)=>match want with
    |true=>Ch b (v7 e i.args fun vals=>uJ fs ms z i.op vals h fun v h1=>ju e i.dst v fun e1=>ih e1 h1 k) (ju e i.dst .undef fun e1=>ih e1 h k)
    |false=>Ch b (ju e i.dst .undef fun e1=>ih e1 h k) (v7 e i.args fun vals=>uJ fs ms z i.op vals h fun v h1=>ju e i.dst v fun e1=>ih e1 h1 k)
   |some _=>ju e i.dst .undef fun e1=>ih e1 h k
   |none=>False
def Nj(l:List bK):Env→Heap→(Env→Heap→Prop)→Prop:=
 List.rec (motive:=fun _=>Env→Heap→(Env→Heap→Prop)→Prop) (fun e h k=>k e h) (fun i _ ih=>T4 fs ms z i ih) l
def T7(i:bK)(ih:Env→Heap→(List aQ→Env→Heap→Prop)→Prop)(e:Env)(h:Heap)(k:List aQ→Env→Heap→Prop):Prop:=match i.guard with
  |none=>v7 e i.args fun vals=>uJ fs ms z i.op vals h fun v h1=>ju e i.dst v fun e1=>ih e1 h1 fun tr=>k (⟨h,vals,v,true⟩::tr)
  |some (d,want)=>match Tr.get e d with
   |some (.bool b)=>match want with
    |true=>Ch b (v7 e i.args fun vals=>uJ fs ms z i.op vals h fun v h1=>ju e i.dst v fun e1=>ih e1 h1 fun tr=>k (⟨h,vals,v,true⟩::tr)) (ju e i.dst .undef fun e1=>ih e1 h fun tr=>k (⟨h,i.args.map e.ev,.undef,false⟩::tr))
    |false=>Ch b (ju e i.dst .undef fun e1=>ih e1 h fun tr=>k (⟨h,i.args.map e.ev,.undef,false⟩::tr)) (v7 e i.args fun vals=>uJ fs ms z i.op vals h fun v h1=>ju e i.dst v fun e1=>ih e1 h1 fun tr=>k (⟨h,vals,v,true⟩::tr))
   |some _=>ju e i.dst .undef fun e1=>ih e1 h fun tr=>k (⟨h,i.args.map e.ev,.undef,false⟩::tr)
   |none=>False
def T5(l:List bK):Env→Heap→(List aQ→Env→Heap→Prop)→Prop:=
 List.rec (motive:=fun _=>Env→Heap→(List aQ→Env→Heap→Prop)→Prop) (fun e h k=>k [] e h) (fun i _ ih=>T7 fs ms z i ih) l
def tJ(c:AC):Env→Heap→(AX→Env→Heap→Prop)→Prop:=
 AC.rec (motive:=fun _=>Env→Heap→(AX→Env→Heap→Prop)→Prop)
  (fun e h k=>k .normal e h)
  (fun l e h k=>Nj fs ms z l e h fun e h=>k .normal e h)
  (fun l win e h k=>match win.all (·.isEmpty) with
   |true=>Nj fs ms z l e h fun e h=>k .normal e h
   |false=>T5 fs ms z l e h fun tr e1 h1=>xF l win tr h1∧k .normal e1 h1)
  (fun _ _ ia ib e h k=>ia e h fun x e1 h1=>match x with
   |.normal=>ib e1 h1 k
   |x=>k x e1 h1)
  (fun c _ _ ia ib e h k=>Uj e c fun v=>match v with
   |.bool t=>Ch t (ia e h k) (ib e h k)
   |_=>False)
  (fun id _ ic e h k=>ic e h fun x e1 h1=>match x with
   |.exit i=>match Nat.beq i id with
    |true=>k .normal e1 h1
    |false=>k (.exit i) e1 h1
   |x=>k x e1 h1)
  (fun c _ e h k=>VC fs ms B rd (.loop c) e h k)
  (fun f ps a b _ _ e h k=>VC fs ms B rd (.rangeFunc f ps a b) e h k)
  (fun id e h k=>k (.exit id) e h)
  (fun e h k=>k .ret e h)
  (fun _ _ _=>False) c
end
section
variable {fs:Nat→Option aB} {ms:Nat→String→Option Nat} {B:Nat} {rd:Bool} {z:Bool}
theorem vu{α:Type}{o:Option α}{k:α→Prop}(h:kU o k):∃v,o=some v∧k v:=by
 cases o with
 |none=>exact h.elim
 |some v=>exact⟨v,rfl,h⟩
theorem vZ{e:Env}{r:bV}{k:AV→Prop}(h:Uj e r k):ey e [r]=true∧k (e.ev r):=by
 cases r with
 |t i=>
  simp only[Uj] at h;split at h
  ·rename_i v hv;exact⟨by simp[ey,hv],by simp only[Env.ev,FN hv];exact h⟩
  ·exact h.elim
 |c v=>exact⟨rfl,h⟩
theorem Dr{e:Env}{r:bV}{l:List bV}(h1:ey e [r]=true)(h2:ey e l=true):ey e (r::l)=true:=by
 cases r with
 |t i=>simp only[ey,Bool.and_true] at h1⊢;rw[h1,h2];rfl
 |c v=>exact h2
theorem jX{e:Env}:∀{l:List bV} {k:List AV→Prop},v7 e l k→ey e l=true∧k (l.map e.ev)
 |[],k,h=>⟨rfl,h⟩
 |r::l,k,h=>by
  obtain⟨h1,h2⟩:=vZ h;obtain⟨h3,h4⟩:=jX h2;exact⟨Dr h1 h3,h4⟩
theorem HG{h:Heap}{x:dm}{k:Nat→Heap→Prop}(hn:PM z h x k):k h.next (h.new x):=by
 cases z with
 |true=>exact hn
 |false=>simp only[PM,vI] at hn;exact hn
theorem Ql{h:Heap}{b:Nat}{x:dm}{k:Heap→Prop}(hn:TH z h b x k):k (h.set b x):=by
 cases z with
 |true=>exact hn
 |false=>simp only[TH,vI] at hn;exact hn
theorem jI{t:Bool}{X Y:Prop}(h:Ch t X Y):(t=true∧X)∨(t=false∧Y):=by
 cases t with
 |true=>exact .inl ⟨rfl,h⟩
 |false=>exact .inr ⟨rfl,h⟩
theorem CY{h:Heap}{b o:Nat}{xs:List AV}{k:Heap→Prop}(hs:GM z h b o xs k):∃h1,h.dU b o xs=some h1∧k h1:=by
 unfold GM at hs;split at hs
 ·rename_i vs es hg;rcases jI hs with⟨h1,h2⟩|⟨_,h2⟩
  ·refine⟨_,?_,Ql h2⟩;simp only[Heap.dU,hg,h1,cond_true]
  ·exact h2.elim
 ·exact hs.elim
theorem Aa{o:gP}{vals:List AV}{h:Heap}{k:AV→Heap→Prop}(hw:uJ fs ms z o vals h k):∃v h1,(∀B,VS fs ms B (.op rd o vals h) (.val v h1))∧k v h1:=by
 cases o with
 |p o=>
  simp only[uJ] at hw;split at hw
  ·split at hw
   ·rename_i c a b;rcases jI hw with⟨rfl,h2⟩|⟨rfl,h2⟩
    ·exact⟨_,_,fun _=>.Fg (v:=a) rfl,h2⟩
    ·exact⟨_,_,fun _=>.Fg (v:=b) rfl,h2⟩
   ·exact hw.elim
  ·split at hw
   ·obtain⟨v,h1,h2⟩:=vu hw;exact⟨v,h,fun _=>.Fg h1,h2⟩
   ·obtain⟨v,h1,h2⟩:=hw;exact⟨v,h,fun _=>.Fg h1,h2⟩
 |a o=>
  simp only[uJ] at hw;split at hw
  ·obtain⟨x,f,h1,h2⟩:=hw;exact⟨_,_,fun _=>.PU h1,HG h2⟩
  ·split at hw
   ·rename_i x f hv;rw[Fk] at hv;exact⟨_,_,fun _=>.PU hv,HG hw⟩
   ·exact hw.elim
 |r o=>
  simp only[uJ] at hw;split at hw
  ·obtain⟨v,h3,h4⟩:=hw;exact⟨v,h,fun _=>.HI h3,h4⟩
  split at hw
  ·rename_i n;unfold Mc at hw;split at hw
   ·rename_i cs o;rcases jI hw with⟨h1,h2⟩|⟨_,h2⟩
    ·simp only[Bool.and_eq_true] at h1;have e1:=Nat.eq_of_beq_eq_true h1.1;have e2:=Nat.eq_of_beq_eq_true h1.2;subst e1 e2;refine⟨_,_,fun _=>.HI (v:=.agg cs) ?_,h2⟩;simp only[rV,l1,Nat.zero_add,List.drop_zero,List.take_length];rw[Nat.ble_eq_true_of_le (Nat.le_refl _)];rfl
    ·obtain⟨v,h3,h4⟩:=vu h2;exact⟨v,h,fun _=>.HI h3,h4⟩
   ·obtain⟨v,h3,h4⟩:=vu hw;exact⟨v,h,fun _=>.HI h3,h4⟩
  ·obtain⟨v,h3,h4⟩:=vu hw;exact⟨v,h,fun _=>.HI h3,h4⟩
 |e o=>
  simp only[uJ] at hw;split at hw
  ·obtain⟨v,h1,h2,h3⟩:=hw;exact⟨v,h1,fun _=>.NB h2,h3⟩
  split at hw
  ·rename_i n;split at hw
   ·rename_i b o v;rcases jI hw with⟨h1,h2⟩|⟨_,h2⟩
    ·obtain⟨g1,h3,h4⟩:=CY h2;refine⟨_,_,fun _=>.NB (v:=.undef) (h1:=g1) ?_,h4⟩;show eI (.store n) [.ptr b o,v] h=_;simp only[eI,h1,cond_true,h3,Option.map_some]
    ·exact h2.elim
   ·exact hw.elim
  ·obtain⟨v,h1,h2,h3⟩:=hw;exact⟨v,h1,fun _=>.NB h2,h3⟩
 |call=>
  simp only[uJ] at hw;split at hw
  ·obtain⟨v,h1,hb,hk⟩:=hw;exact⟨v,h1,fun B=>.mF (.dw (hb B)),hk⟩
  ·obtain⟨v,h1,hb,hk⟩:=hw;exact⟨v,h1,fun B=>.mF (hb B),hk⟩
  ·exact hw.elim
 |invoke name=>
  simp only[uJ] at hw;split at hw
  ·split at hw
   ·rename_i f hf;obtain⟨v,h1,hb,hk⟩:=hw;exact⟨v,h1,fun B=>.me hf (hb B),hk⟩
   ·exact hw.elim
  ·exact hw.elim
 |panic=>exact hw.elim
 |bad=>exact hw.elim
theorem dh:∀{l:List bK} {e:Env} {h:Heap} {k:Env→Heap→Prop},Nj fs ms z l e h k→VO fs ms B rd l e h k
 |[],e,h,k,hw=>⟨_,_,_,.nil,hw⟩
 |i::l,e,h,k,hw=>by
  have dZ:dD i e=some true→(v7 e i.args fun vals=>uJ fs ms z i.op vals h fun v h1=>ju e i.dst v fun e1=>Nj fs ms z l e1 h1 k)→VO fs ms B rd (i::l) e h k:=by
   intro qR hw;obtain⟨ha,hw⟩:=jX hw;obtain⟨v,h1,hb,hk⟩:=Aa (rd:=rd) hw;rw[jf] at hk;obtain⟨tr,e',h',hl,hk⟩:=dh hk;exact⟨_,_,_,.on qR ha (hb B) hl,hk⟩
  have hoff:dD i e=some false→(ju e i.dst .undef fun e1=>Nj fs ms z l e1 h k)→VO fs ms B rd (i::l) e h k:=by
   intro qR hk;rw[jf] at hk;obtain⟨tr,e',h',hl,hk⟩:=dh hk;exact⟨_,_,_,.off qR hl,hk⟩
  replace hw:T4 fs ms z i (Nj fs ms z l) e h k:=hw;unfold T4 at hw;split at hw
  ·rename_i hg;exact dZ (by simp[dD,hg]) hw
  ·rename_i d want hg;split at hw
   ·rename_i b hb;split at hw
    ·rcases jI hw with⟨rfl,h2⟩|⟨rfl,h2⟩
     ·exact dZ (by simp[dD,hg,hb]) h2
     ·exact hoff (by simp[dD,hg,hb]) h2
    ·rcases jI hw with⟨rfl,h2⟩|⟨rfl,h2⟩
     ·exact hoff (by simp[dD,hg,hb]) h2
     ·exact dZ (by simp[dD,hg,hb]) h2
   ·rename_i v hne hv;refine hoff ?_ hw;cases v with
    |bool b=>exact absurd rfl (hne b)
    |_=>simp only[dD,hg,hv]
   ·exact hw.elim
theorem tC:∀{l:List bK} {e:Env} {h:Heap} {k:List aQ→Env→Heap→Prop},T5 fs ms z l e h k→∃tr e' h',VS fs ms B (.ops rd l e h) (.ops tr e' h')∧k tr e' h'
 |[],e,h,k,hw=>⟨_,_,_,.nil,hw⟩
 |i::l,e,h,k,hw=>by
  have dZ:dD i e=some true→(v7 e i.args fun vals=>uJ fs ms z i.op vals h fun v h1=>ju e i.dst v fun e1=>T5 fs ms z l e1 h1 fun tr=>k (⟨h,vals,v,true⟩::tr))→∃tr e' h',VS fs ms B (.ops rd (i::l) e h) (.ops tr e' h')∧k tr e' h':=by
   intro qR hw;obtain⟨ha,hw⟩:=jX hw;obtain⟨v,h1,hb,hk⟩:=Aa (rd:=rd) hw;rw[jf] at hk;obtain⟨tr,e',h',hl,hk⟩:=tC hk;exact⟨_,_,_,.on qR ha (hb B) hl,hk⟩
  have hoff:dD i e=some false→(ju e i.dst .undef fun e1=>T5 fs ms z l e1 h fun tr=>k (⟨h,i.args.map e.ev,.undef,false⟩::tr))→∃tr e' h',VS fs ms B (.ops rd (i::l) e h) (.ops tr e' h')∧k tr e' h':=by
   intro qR hk;rw[jf] at hk;obtain⟨tr,e',h',hl,hk⟩:=tC hk;exact⟨_,_,_,.off qR hl,hk⟩
  replace hw:T7 fs ms z i (T5 fs ms z l) e h k:=hw;unfold T7 at hw;split at hw
  ·rename_i hg;exact dZ (by simp[dD,hg]) hw
  ·rename_i d want hg;split at hw
   ·rename_i b hb;split at hw
    ·rcases jI hw with⟨rfl,h2⟩|⟨rfl,h2⟩
     ·exact dZ (by simp[dD,hg,hb]) h2
     ·exact hoff (by simp[dD,hg,hb]) h2
    ·rcases jI hw with⟨rfl,h2⟩|⟨rfl,h2⟩
     ·exact hoff (by simp[dD,hg,hb]) h2
     ·exact dZ (by simp[dD,hg,hb]) h2
   ·rename_i v hne hv;refine hoff ?_ hw;cases v with
    |bool b=>exact absurd rfl (hne b)
    |_=>simp only[dD,hg,hv]
   ·exact hw.elim
theorem aa:∀{c:AC} {e:Env} {h:Heap} {k:AX→Env→Heap→Prop},tJ fs ms B rd z c e h k→VC fs ms B rd c e h k
 |.skip,e,h,k,hw=>⟨_,_,_,.skip,hw⟩
 |.ops l,e,h,k,hw=>by
  obtain⟨tr,e',h',hb,hk⟩:=dh (B:=B) (rd:=rd) (show Nj fs ms z l e h _ from hw);exact⟨_,_,_,.ops hb,hk⟩
 |.bH l win,e,h,k,hw=>by
  replace hw:match win.all (·.isEmpty) with
   |true=>Nj fs ms z l e h fun e h=>k .normal e h
   |false=>T5 fs ms z l e h fun tr e1 h1=>xF l win tr h1∧k .normal e1 h1:=hw
  split at hw
  ·rename_i wF;obtain⟨tr,e',h',hb,hk⟩:=dh (B:=B) (rd:=rd) hw;exact⟨_,_,_,.bH wF hb,hk⟩
  ·obtain⟨tr,e',h',hb,hk⟩:=tC (B:=B) (rd:=rd) hw;exact⟨_,_,_,.KK hk.1 hb,hk.2⟩
 |.seq a b,e,h,k,hw=>by
  obtain⟨x,e1,h1,hb,hk⟩:=aa (show tJ fs ms B rd z a e h _ from hw);cases x with
  |normal=>
   obtain⟨x2,e2,h2,iH,hk2⟩:=aa (show tJ fs ms B rd z b e1 h1 k from hk);exact⟨_,_,_,.AL hb iH,hk2⟩
  |exit i=>exact⟨_,_,_,.qS hb rfl,hk⟩
  |ret=>exact⟨_,_,_,.qS hb rfl,hk⟩
  |panic v=>exact⟨_,_,_,.qS hb rfl,hk⟩
 |.cond c a b,e,h,k,hw=>by
  obtain⟨ha,hw⟩:=vZ (show Uj e c _ from hw);split at hw
  ·rename_i t ht;rcases jI hw with⟨rfl,h2⟩|⟨rfl,h2⟩
   ·obtain⟨x,e1,h1,hb,hk⟩:=aa h2;exact⟨_,_,_,.cond ha ht hb,hk⟩
   ·obtain⟨x,e1,h1,hb,hk⟩:=aa h2;exact⟨_,_,_,.cond ha ht hb,hk⟩
  ·exact hw.elim
 |.block id c,e,h,k,hw=>by
  obtain⟨x,e1,h1,hb,hk⟩:=aa (show tJ fs ms B rd z c e h _ from hw);cases x with
  |exit i=>
   simp only at hk;split at hk
   ·rename_i QZ;have:=Nat.eq_of_beq_eq_true QZ;subst this;exact⟨_,_,_,.pX hb,hk⟩
   ·rename_i QZ;refine⟨_,_,_,.gE hb ?_,hk⟩;intro j hj hji;simp only[AX.exit.injEq] at hj;subst hj hji;simp at QZ
  |normal=>exact⟨_,_,_,.gE hb (by simp),hk⟩
  |ret=>exact⟨_,_,_,.gE hb (by simp),hk⟩
  |panic v=>exact⟨_,_,_,.gE hb (by simp),hk⟩
 |.loop c,e,h,k,hw=>hw
 |.rangeFunc f ps a b,e,h,k,hw=>hw
 |.exit id,e,h,k,hw=>⟨_,_,_,.exit,hw⟩
 |.ret,e,h,k,hw=>⟨_,_,_,.ret,hw⟩
 |.bad,e,h,k,hw=>hw.elim
def vX(rs:List tF)(Q:AV→Heap→Prop):AX→Env→Heap→Prop:=fun x e h=>match x with
 |.normal|.ret=>@Option.rec (List AV) (fun _=>Prop) False (fun vs=>match vs with
   |[v]=>Q v h
   |vs=>Q (.cQ vs) h) (er e h rs)
 |_=>False
theorem Ib{f:Nat}{af:aB}{args:List AV}{h:Heap}{Q:AV→Heap→Prop}(hf:fs f=some af)(hlen:args.length≤af.ntmps)
  (hw:VC fs ms h.next false af.body (Env.start af.ntmps args) h (vX af.results Q)):VD fs ms f args h Q:=by
 obtain⟨x,e1,h1,hb,hk⟩:=hw;have hx:x=.normal∨x=.ret:=by
  cases x with
  |normal=>exact .inl rfl
  |ret=>exact .inr rfl
  |exit i=>exact hk.elim
  |panic v=>exact hk.elim
 have hk':∃vs,er e1 h1 af.results=some vs∧Q (dz vs) h1:=by
  rcases hx with rfl|rfl<;>
  ·simp only[vX] at hk;cases hvs:er e1 h1 af.results with
   |some vs=>
    rw[hvs] at hk;refine⟨vs,rfl,?_⟩;rcases vs with _|⟨v,_|⟨u,r⟩⟩<;>exact hk
   |none=>
    rw[hvs] at hk;exact hk.elim
 obtain⟨vs,h2,h3⟩:=hk';exact⟨_,_,fun B=>.call hf hlen hb hx h2,h3⟩
theorem aC{f:Nat}{af:aB}{args:List AV}{h:Heap}{Q:AV→Heap→Prop}(z:Bool)(hf:fs f=some af)(hlen:args.length≤af.ntmps)
  (hw:mJ af.ntmps args fun e=>tJ fs ms h.next false z af.body e h (vX af.results Q)):VD fs ms f args h Q:=by
 rw[lI] at hw;exact Ib hf hlen (aa hw)
theorem VD.mono{f:Nat}{args:List AV}{h:Heap}{Q Q':AV→Heap→Prop}(hc:VD fs ms f args h Q)(hq:∀v h',Q v h'→Q' v h'):VD fs ms f args h Q':=by
 obtain⟨v,h',hb,hk⟩:=hc;exact⟨v,h',hb,hq v h' hk⟩
theorem VC.mono{c:AC}{e:Env}{h:Heap}{Q Q':AX→Env→Heap→Prop}(hc:VC fs ms B rd c e h Q)(hq:∀x e' h',Q x e' h'→Q' x e' h'):VC fs ms B rd c e h Q':=by
 obtain⟨x,e',h',hb,hk⟩:=hc;exact⟨x,e',h',hb,hq x e' h' hk⟩
theorem lU{c:AC}{e:Env}{h:Heap}{Q:AX→Env→Heap→Prop}
  (hw:tJ fs ms B rd z c e h fun x e1 h1=>match x with|.normal=>VC fs ms B rd (.loop c) e1 h1 Q|x=>Q x e1 h1):VC fs ms B rd (.loop c) e h Q:=by
 obtain⟨x,e1,h1,hb,hk⟩:=aa hw;cases x with
 |normal=>
  obtain⟨x2,e2,h2,iH,hk2⟩:=hk;exact⟨_,_,_,.nP hb iH,hk2⟩
 |exit i=>exact⟨_,_,_,.dJ hb rfl,hk⟩
 |ret=>exact⟨_,_,_,.dJ hb rfl,hk⟩
 |panic v=>exact⟨_,_,_,.dJ hb rfl,hk⟩
theorem z7{c:AC}{e e':Env}{h h':Heap}{Q:AX→Env→Heap→Prop}{p:Nat→Nat}(hg:GC B p e h e' h')(hw:VC fs ms B rd c e' h' Q):VC fs ms B rd c e h Q:=by
 obtain⟨x,e1,h1,hb,hk⟩:=hw;exact⟨x,e1,h1,.gc hg hb,hk⟩
theorem dV{c:AC}{e:Env}{h:Heap}{Q:AX→Env→Heap→Prop}{i:Nat}{v v':AV}(bs:List Nat)(hi:Tr.get e i=some v)(hf:jo (· ∈bs) h v v')
  (hw:VC fs ms B rd c (Tr.set e i v') (ck bs h) Q):VC fs ms B rd c e h Q:=by
 obtain⟨x,e1,h1,hb,hk⟩:=hw;exact⟨x,e1,h1,.JT hi hf hb,hk⟩
def PC(fs:Nat→Option aB)(ms:Nat→String→Option Nat)(f:Nat)(args:List AV)(v:AV):Prop:=
 bL args=true∧v.cl=true∧VD fs ms f args ⟨0,.nil⟩ fun u g=>jo (fun _=>True) g u v
theorem aX{f:Nat}{args:List AV}{v:AV}(h1:bL args=true)(h2:v.cl=true)(h3:VD fs ms f args ⟨0,.nil⟩ fun u _=>u=v):PC fs ms f args v:=
 ⟨h1,h2,h3.mono fun u g hu=>hu▸.clean (hu▸h2)⟩
theorem W4:∀{v:AV},v.pl=true→v.cl=true:=by
 intro v;refine AV.rec (motive_1:=fun v=>v.pl=true→v.cl=true) (motive_2:=fun l=>nk l=true→bL l=true) ?_ ?_ ?_ ?_ ?_ ?_ ?_ ?_ ?_ ?_ ?_ ?_ ?_ ?_ ?_ ?_ ?_ ?_ ?_ ?_ ?_ ?_ v
 case refine_11=>
  intro fn first aN ih1 ih2 hp
  simp only[AV.pl,Bool.and_eq_true] at hp;simp only[AV.cl,Bool.and_eq_true];exact⟨⟨ih1 hp.1.1,ih2 hp.1.2⟩,hp.2⟩
 case refine_14=>intro t v ih hp;simp only[AV.cl];exact ih (by simpa[AV.pl] using hp)
 case refine_16=>intro cs ih hp;simp only[AV.cl];exact ih (by simpa[AV.pl] using hp)
 case refine_17=>intro cs ih hp;simp only[AV.cl];exact ih (by simpa[AV.pl] using hp)
 case refine_20=>intro b o k hp;simp[AV.pl] at hp
 case refine_21=>intro _;rfl
 case refine_22=>intro x l ih1 ih2 hp;simp only[nk,Bool.and_eq_true] at hp;simp only[bL,ih1 hp.1,ih2 hp.2];rfl
 all_goals (intros;simp_all[AV.pl,AV.cl])
theorem PZ:∀{l:List AV},nk l=true→bL l=true
 |[],_=>rfl
 |x::l,hp=>by simp only[nk,Bool.and_eq_true] at hp;simp only[bL,W4 hp.1,PZ hp.2];rfl
theorem W3{f n:Nat}(he:U8 fs ms Mn n (.call f [] ⟨0,.nil⟩) isTrue=true):PC fs ms f [] (.bool true):=by
 obtain⟨h1,hb⟩:=OX Mp (KV he);exact⟨rfl,rfl,.bool true,⟨0,.nil⟩,fun B=>.closed hb rfl rfl,.clean rfl⟩
theorem au{f:Nat}{args:List AV}{h:Heap}{v:AV}{Q:AV→Heap→Prop}(hp:PC fs ms f args v)(hq:Q v h):VD fs ms f args h Q:=by
 obtain⟨h1,h2,u,g,hb,hf⟩:=hp;exact⟨v,h,fun B=>.pure (hb B) h1 hf h2,hq⟩
theorem wW{f:Nat}{args args':List AV}{h:Heap}{Q:AV→Heap→Prop}(bs:List Nat)(hf:pT (· ∈bs) h args args')(hw:VD fs ms f args' (ck bs h) Q):VD fs ms f args h Q:=by
 obtain⟨v,h1,hb,hk⟩:=hw;exact⟨v,h1,fun B=>.Vf hf (hb B),hk⟩
theorem Zz{f:Nat}{args:List AV}{h:Heap}{Q:AV→Heap→Prop}(hw:VD fs ms f args h fun v h1=>∃bs v',jo (· ∈bs) h1 v v'∧Q v' (ck bs h1)):VD fs ms f args h Q:=by
 obtain⟨v,h1,hb,bs,v',hf,hq⟩:=hw;exact⟨v',_,fun B=>.Vg (hb B) hf,hq⟩
theorem K2{P:Nat→Prop}{g:Heap}{v v':AV}(f:jo P g v v'):v'.pl=true→v=v':=by
 induction f with
 |clean _=>intro _;rfl
 |agg h1 _ ih=>
  intro hp;simp only[AV.pl] at hp;rename_i cs cs' _
  congr 1
  refine List.ext_getElem? fun i=>?_;cases hx:cs'[i]? with
  |none=>rw[List.getElem?_eq_none (by rw[h1];exact List.getElem?_eq_none_iff.1 hx)]
  |some x=>
   have hl:=(List.getElem?_eq_some_iff.1 hx).1;have hy:=List.getElem?_eq_getElem (l:=cs) (i:=i) (by rw[h1];exact hl);rw[hy,ih i _ x hy hx (jS hp hx)]
 |cQ h1 _ ih=>
  intro hp;simp only[AV.pl] at hp;rename_i cs cs' _
  congr 1
  refine List.ext_getElem? fun i=>?_;cases hx:cs'[i]? with
  |none=>rw[List.getElem?_eq_none (by rw[h1];exact List.getElem?_eq_none_iff.1 hx)]
  |some x=>
   have hl:=(List.getElem?_eq_some_iff.1 hx).1;have hy:=List.getElem?_eq_getElem (l:=cs) (i:=i) (by rw[h1];exact hl);rw[hy,ih i _ x hy hx (jS hp hx)]
 |iface _ ih=>intro hp;rw[ih (by simpa[AV.pl] using hp)]
 |aD=>intro hp;simp[AV.pl] at hp
 |sl=>intro hp;simp[AV.pl] at hp
 |ptr=>intro hp;simp[AV.pl] at hp
 |func h1 _ h2 _ ih1 ih2=>
  intro hp;simp only[AV.pl,Bool.and_eq_true] at hp;rename_i fn a a' c c' _ _
  congr 1
  ·refine List.ext_getElem? fun i=>?_;cases hx:a'[i]? with
   |none=>rw[List.getElem?_eq_none (by rw[h1];exact List.getElem?_eq_none_iff.1 hx)]
   |some x=>
    have hl:=(List.getElem?_eq_some_iff.1 hx).1;have hy:=List.getElem?_eq_getElem (l:=a) (i:=i) (by rw[h1];exact hl);rw[hy,ih1 i _ x hy hx (jS hp.1.1 hx)]
  ·refine List.ext_getElem? fun i=>?_;cases hx:c'[i]? with
   |none=>rw[List.getElem?_eq_none (by rw[h2];exact List.getElem?_eq_none_iff.1 hx)]
   |some x=>
    have hl:=(List.getElem?_eq_some_iff.1 hx).1;have hy:=List.getElem?_eq_getElem (l:=c) (i:=i) (by rw[h2];exact hl);rw[hy,ih2 i _ x hy hx (jS hp.1.2 hx)]
theorem ji{f:Nat}{args args':List AV}{h:Heap}{v:AV}{Q:AV→Heap→Prop}(hp:PC fs ms f args' v)(m9:v.pl=true)(hf:pT (fun _=>True) h args args')(hq:Q v h):VD fs ms f args h Q:=by
 obtain⟨h1,h2,u,g,hb,hu⟩:=hp;have:=K2 hu m9;subst this;exact⟨_,h,fun B=>.view hf h1 (hb B) m9,hq⟩
def Rx(s:Nat)(l:List AV)(v:AV)(g:Heap):Prop:=(l=[]∧v=.aD)∨∃b,v=.sl b 0 l.length l.length true∧g.get b=some (.cells (ai l) true s)
theorem Xt{f s:Nat}{args args':List AV}{h:Heap}{l:List AV}{Q:AV→Heap→Prop}(jQ:bL args'=true)(m9:nk (ai l)=true)(hd:VD fs ms f args' ⟨0,.nil⟩ (Rx s l))(hf:pT (fun _=>True) h args args')
  (h0:l=[]→Q .aD h)(h1:Q (.sl h.next 0 l.length l.length true) (h.new (.cells (ai l) true s))):VD fs ms f args h Q:=by
 obtain⟨v,g,hb,hk⟩:=hd;rcases hk with⟨hl,hv⟩|⟨b,hv,hg⟩
 ·subst hv;exact⟨_,h,fun B=>.view hf jQ (hb B) rfl,h0 hl⟩
 ·subst hv;exact⟨_,_,fun B=>.Rv hf jQ (hb B) hg m9,h1⟩
theorem pT.nil{P:Nat→Prop}{g:Heap}:pT P g [] []:=⟨rfl,fun i x y hx=>by simp at hx⟩
theorem pT.cons{P:Nat→Prop}{g:Heap}{x y:AV}{l m:List AV}(h1:jo P g x y)(h2:pT P g l m):pT P g (x::l) (y::m):=by
 refine⟨by simp[h2.1],fun i a b ha hb=>?_⟩;cases i with
 |zero=>simp at ha hb;subst ha hb;exact h1
 |succ i=>exact h2.2 i a b (by simpa using ha) (by simpa using hb)
theorem pT.clean{P:Nat→Prop}{g:Heap}{l:List AV}(h:bL l=true):pT P g l l:=
 ⟨rfl,fun i x y hx hy=>by rw[hx] at hy;cases hy;exact .clean (fQ h hx)⟩
theorem jo.RA{P:Nat→Prop}{g:Heap}{l m:List AV}(h:pT P g l m):jo P g (.agg l) (.agg m):=.agg h.1 h.2
theorem jo.TM{P:Nat→Prop}{g:Heap}{l m:List AV}(h:pT P g l m):jo P g (.cQ l) (.cQ m):=.cQ h.1 h.2
theorem jo.func'{P:Nat→Prop}{g:Heap}{fn:Fn}{a a' c c':List AV}(h:pT P g a a')(h':pT P g c c'):jo P g (.func fn a c) (.func fn a' c'):=.func h.1 h.2 h'.1 h'.2
theorem jo.ptr'{P:Nat→Prop}{g:Heap}{b o:Nat}{vs cs:List AV}{wr:Bool}{es:Nat}(hb:P b)(hg:g.get b=some (.cells vs wr es))(h:pT P g vs cs):jo P g (.ptr b o) (.fp cs o):=
 .ptr (base:=0) hb hg (by simp) (by rw[h.1];simp) fun j c y hc hy=>by rw[Nat.zero_add] at hy;exact h.2 j y c hy hc
theorem jo.row{P:Nat→Prop}{g:Heap}{b len cap k s:Nat}{op:Bool}{l vs:List AV}{wr:Bool}{es:Nat}(hb:P b)(hg:g.get b=some (.cells vs wr es))(hv:vs=ai l)(hs:aW s l=true)
  (hlen:len=l.length)(hcap:len≤cap)(hk:k≤2)(h1:1≤k→op=false)(h2:2≤k→cap=len)(jQ:bL l=true):jo P g (.sl b 0 len cap op) (.fz k l):=by
 subst hv;have hf:=l6 hs;refine .sl hb hg hs hlen (by rw[hf.1];simp) hcap hk h1 h2 ?_;intro i x j c y hx hc hy;rw[Nat.zero_add] at hy;obtain⟨i',x',j',a1,a2,a3⟩:=hf.2 _ _ hy;have e1:=dN hs hx;have e2:=dN hs a1;have l1:=(List.getElem?_eq_some_iff.1 hc).1;have l2:=(List.getElem?_eq_some_iff.1 a2).1;have hsp:0<s:=by omega
 have hi:i=i':=by
  have q1:(i*s+j)/s=i:=by rw[Nat.mul_comm,Nat.mul_add_div hsp,Nat.div_eq_of_lt (by omega)];omega
  have q2:(i'*s+j')/s=i':=by rw[Nat.mul_comm,Nat.mul_add_div hsp,Nat.div_eq_of_lt (by omega)];omega
  rw[←q1,a3,q2]
 subst hi;have hj:j=j':=by omega
 subst hj;rw[hx] at a1;cases a1
 rw[hc] at a2;cases a2
 exact .clean (fQ (cI (fQ jQ hx)) hc)
def ek(d:Nat)(l:List (Nat×AV)):Env:=sk d (kn l fun _=>none)
def hk(n:Nat)(l:List (Nat×dm)):Heap:=⟨n,l.foldr (fun p t=>Tr.set t p.1 p.2) .nil⟩
theorem sg:∀(d:Nat) (g:Nat→Option AV) (i:Nat) (v:AV),Tr.get (sk d g) i=some v→g i=some v
 |0,g,i,v,h=>by simp[sk,Tr.get] at h
 |d+1,g,i,v,h=>by
  rcases Nat.eq_zero_or_pos i with rfl|hi
  ·simpa[sk,Tr.get] using h
  ·rcases Nat.mod_two_eq_zero_or_one i with h2|h2
   ·rw[sk,Tr.gu _ _ h2 (by omega)] at h;have:=sg d _ _ v h;rw[←this]
    congr 1
    omega
   ·rw[sk,Tr.je _ _ h2] at h;have:=sg d _ _ v h;rw[←this]
    congr 1
    omega
def jH(p:Nat→Nat)(n:Nat)(e:Env):List (Nat×AV)→Prop
 |[]=>True
 |(i,v)::l=>(∃u,Tr.get e i=some u∧tZ p n v u)∧jH p n e l
theorem pM{p:Nat→Nat}{n:Nat}{e:Env}:∀{l:List (Nat×AV)},jH p n e l→∀{i:Nat} {v:AV},kn l (fun _=>none) i=some v→∃u,Tr.get e i=some u∧tZ p n v u
 |[],_,i,v,hv=>by simp[kn] at hv
 |(j,w)::l,h,i,v,hv=>by
  simp only[kn] at hv;cases hb:Nat.beq i j with
  |false=>rw[hb] at hv;exact pM h.2 hv
  |true=>
   have:=Nat.eq_of_beq_eq_true hb;subst this;rw[hb] at hv;simp only[cond_true,Option.some.injEq] at hv;subst hv;exact h.1
def AS(p:Nat→Nat)(n:Nat)(h:Heap):List (Nat×dm)→Prop
 |[]=>True
 |(b,x)::l=>b<n∧(∃y,h.get (p b)=some y∧mC p n x y)∧AS p n h l
theorem yV{n:Nat}:∀{l:List (Nat×dm)} {b:Nat} {x:dm},(hk n l).get b=some x→(b,x)∈l
 |[],b,x,h=>by simp[hk,Heap.get,Tr.get] at h
 |(c,y)::l,b,x,h=>by
  have:(Tr.set (l.foldr (fun p t=>Tr.set t p.1 p.2) .nil) c y).get b=some x:=h;rw[Tr.bP] at this;split at this
  ·rename_i he;cases this;subst he;exact List.mem_cons_self
  ·exact List.mem_cons_of_mem _ (yV (n:=n) this)
theorem vR{p:Nat→Nat}{n:Nat}{h:Heap}:∀{l:List (Nat×dm)},AS p n h l→∀{b:Nat} {x:dm},(b,x)∈l→b<n∧∃y,h.get (p b)=some y∧mC p n x y
 |[],_,b,x,hm=>by simp at hm
 |(c,y)::l,hl,b,x,hm=>by
  rcases List.mem_cons.1 hm with he|hm
  ·cases he;exact⟨hl.1,hl.2.1⟩
  ·exact vR hl.2.2 hm
theorem Nh{c:AC}{e:Env}{h:Heap}{Q:AX→Env→Heap→Prop}(d:Nat)(l:List (Nat×AV))(n:Nat)(m:List (Nat×dm))(p:Nat→Nat)(hl:jH p n e l)(hm:AS p n h m)
  (hp:∀b c,b∈m.map (·.1)→c∈m.map (·.1)→p b=p c→b=c)(wC:∀b,b<B→p b=b)(hn:B≤n)
  (hw:VC fs ms B rd c (ek d l) (hk n m) Q):VC fs ms B rd c e h Q:=by
 refine z7 (p:=p) ⟨?_,?_,?_,wC,hn⟩ hw
 ·intro i v hv;exact pM hl (sg d _ i v hv)
 ·intro b x hx;exact vR hm (yV hx)
 ·intro b c hb hc he;have mem:∀b,(hk n m).get b≠none→b∈m.map (·.1):=by
   intro b hb;cases hx:(hk n m).get b with
   |none=>exact absurd hx hb
   |some x=>exact List.mem_map.2 ⟨(b,x),yV hx,rfl⟩
  exact hp b c (mem b hb) (mem c hc) he
theorem ei{c:AC}{e:Env}{h:Heap}{Q:AX→Env→Heap→Prop}(d:Nat)(l:List (Nat×AV))(hl:jH id 0 e l)
  (hw:VC fs ms 0 rd c (ek d l) (hk 0 []) Q):VC fs ms 0 rd c e h Q:=
 Nh d l 0 [] id hl trivial (fun b c hb=>by simp at hb) (fun b hb=>rfl) (Nat.le_refl _) hw
theorem Dj{e:Env}:∀{l:List (Nat×AV)},aP e l→∀{i:Nat} {v:AV},kn l (fun _=>none) i=some v→Tr.get e i=some v
 |[],_,i,v,hv=>by simp[kn] at hv
 |(j,w)::l,h,i,v,hv=>by
  simp only[kn] at hv;cases hb:Nat.beq i j with
  |false=>rw[hb] at hv;exact Dj h.2 hv
  |true=>
   have:=Nat.eq_of_beq_eq_true hb;subst this;rw[hb] at hv;simp only[cond_true,Option.some.injEq] at hv;subst hv;exact h.1
theorem ak{c:AC}{e:Env}{h:Heap}{Q:AX→Env→Heap→Prop}(d:Nat)(l:List (Nat×AV))(hl:aP e l)(hw:VC fs ms B rd c (ek d l) h Q):VC fs ms B rd c e h Q:=by
 obtain⟨x,e1,h1,hb,hk⟩:=hw;exact⟨x,e1,h1,.drop (fun i v hv=>Dj hl (sg d _ i v hv)) hb,hk⟩
theorem aJ{p:Nat→Nat}{n:Nat}{e:Env}{i:Nat}{v:AV}{l:List (Nat×AV)}(h:Tr.get e i=some v)(hc:v.cl=true)(hl:jH p n e l):jH p n e ((i,v)::l):=⟨⟨v,h,.cl hc⟩,hl⟩
end
end Ads
end Go.Proofs.Ytepdklcpagielaa
