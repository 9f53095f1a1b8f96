/-
  What code must come to in Vs, as a proposition that is worked out from the code.
-/
import Derived.Test.YtnlcabhfkpafmaaGreatVsSim
import Derived.Test.YtnlcabhfkpafmaaGreatAdsEvalX
set_option linter.unusedSimpArgs false
set_option linter.unusedVariables false
namespace Go.Proofs.YtnlcabhfkpafmaaGreat
namespace Ads
abbrev lX{α:Type}(o:Option α)(k:α→Prop):Prop:=@Option.rec α (fun _=>Prop) False k o
theorem qa{α:Type}{o:Option α}{k:α→Prop}{v:α}(h:o=some v)(hk:k v):@Option.rec α (fun _=>Prop) False k o:=by rw[h];exact hk
section
variable (fs:Nat→Option ak) (ms:Nat→String→Option Nat) (B:Nat) (rd:Bool) (z:Bool)
def VC(c:AC)(e:Env)(h:Heap)(Q:AX→Env→Heap→Prop):Prop:=∃x e' h',VS fs ms B (.code rd c e h) (.code x e' h')∧Q x e' h'
def VO(l:List bF)(e:Env)(h:Heap)(Q:Env→Heap→Prop):Prop:=∃tr e' h',VS fs ms B (.ops rd l e h) (.ops tr e' h')∧Q e' h'
def VD(f:Nat)(args:List AV)(h:Heap)(Q:AV→Heap→Prop):Prop:=∃v h',(∀B,VS fs ms B (.call f args h) (.val v h'))∧Q v h'
def SF(e:Env)(r:bG)(k:AV→Prop):Prop:=match r with
 |.t i=>match Tr.get e i with
  |some v=>k v
  |none=>False
 |.c v=>k v
def xx(e:Env):List bG→(List AV→Prop)→Prop
 |[],k=>k []
 |r::l,k=>SF e r fun v=>xx e l fun vs=>k (v::vs)
def NQ(h:Heap)(x:dD)(k:Nat→Heap→Prop):Prop:=match z with
 |true=>k h.next (h.new x)
 |false=>match h with
  |⟨n,m⟩=>OO m n x fun t=>k n ⟨n+1,t⟩
def Si(h:Heap)(b:Nat)(x:dD)(k:Heap→Prop):Prop:=match z with
 |true=>k (h.set b x)
 |false=>match h with
  |⟨n,m⟩=>OO m b x fun t=>k ⟨n,t⟩
def DD(h:Heap)(b o:Nat)(xs:List AV)(k:Heap→Prop):Prop:=match h.get b with
 |some (.cells vs true es)=>Fs (Nat.ble (o+xs.length) vs.length&&bz xs) (Si z h b (.cells (Heap.splice vs o xs) true es) k) False
 |_=>False
def I8(n:Nat)(vals:List AV)(h:Heap)(k:AV→Prop):Prop:=match vals with
 |[.fp cs o]=>Fs (Nat.beq o 0&&Nat.beq n cs.length) (k (.agg cs)) (lX (rV (.aY n) [.fp cs o] h) k)
 |vals=>lX (rV (.aY n) vals h) k
def UK(o:qw)(vals:List AV):Bool:=
 match o with
 |.bin op=>match vals with
  |.str _::_=>match op with
   |.add=>false
   |_=>true
  |_=>match op with
   |.quo|.rem|.shl|.shr=>false
   |_=>true
 |.ay _|.kA _ _|.IY _ _ _|.Da|.slice _ _ _ _|.pz _ _|.pq _ _ _ _ _=>false
 |_=>true
def rN(o:fH)(vals:List AV)(h:Heap)(k:AV→Heap→Prop):Prop:=
 match o with
 |.p o=>match o with
  |.pick=>match vals with
   |[.bool c,a,b]=>Fs c (k a h) (k b h)
   |_=>False
  |o=>match UK o vals with
   |true=>lX (pV o vals) fun v=>k v h
   |false=>∃v,pV o vals=some v∧k v h
 |.a o=>match o with
  |.jR zs n b=>∃x f,aI (.jR zs n b) vals=some (x,f)∧NQ z h x fun b h1=>k (f b) h1
  |o=>match ZU o vals with
   |some (x,f)=>NQ z h x fun b h1=>k (f b) h1
   |none=>False
 |.r o=>match z with
  |true=>∃v,rV o vals h=some v∧k v h
  |false=>match o with
   |.aY n=>I8 n vals h fun v=>k v h
   |o=>lX (rV o vals h) fun v=>k v h
 |.e o=>match z with
  |true=>∃v h1,eV o vals h=some (v,h1)∧k v h1
  |false=>match o with
   |.store n=>match vals with
    |[.ptr b o,v]=>Fs (Nat.beq v.cells.length n) (DD z h b o v.cells fun h1=>k .undef h1) False
    |_=>False
   |o=>∃v h1,eV o vals h=some (v,h1)∧k v h1
 |.call=>match vals with
  |.func (.func f) first aL::args=>VD fs ms f (first++(args++aL)) h k
  |fv::args=>∃v h1,(∀B,VS fs ms B (.fD fv args h) (.val v h1))∧k v h1
  |[]=>False
 |.invoke name=>match vals with
  |.iface t x::args=>match ms t name with
   |some f=>VD fs ms f (x::args) h k
   |none=>False
  |_=>False
 |_=>False
def GJ:List bF→Env→Heap→(Env→Heap→Prop)→Prop
 |[],e,h,k=>k e h
 |i::l,e,h,k=>match i.guard with
  |none=>xx e i.args fun vals=>rN fs ms z i.op vals h fun v h1=>oA e i.dst v fun e1=>GJ l e1 h1 k
  |some (d,want)=>match Tr.get e d with
   |some (.bool b)=>match want with
    |true=>Fs b (xx e i.args fun vals=>rN fs ms z i.op vals h fun v h1=>oA e i.dst v fun e1=>GJ l e1 h1 k) (oA e i.dst .undef fun e1=>GJ l e1 h k)
    |false=>Fs b (oA e i.dst .undef fun e1=>GJ l e1 h k) (xx e i.args fun vals=>rN fs ms z i.op vals h fun v h1=>oA e i.dst v fun e1=>GJ l e1 h1 k)
   |some _=>oA e i.dst .undef fun e1=>GJ l e1 h k
   |none=>False
def Kx:List bF→Env→Heap→(List aM→Env→Heap→Prop)→Prop
 |[],e,h,k=>k [] e h
 |i::l,e,h,k=>match i.guard with
  |none=>xx e i.args fun vals=>rN fs ms z i.op vals h fun v h1=>oA e i.dst v fun e1=>Kx l e1 h1 fun tr=>k (⟨h,vals,v,true⟩::tr)
  |some (d,want)=>match Tr.get e d with
   |some (.bool b)=>match want with
    |true=>Fs b (xx e i.args fun vals=>rN fs ms z i.op vals h fun v h1=>oA e i.dst v fun e1=>Kx l e1 h1 fun tr=>k (⟨h,vals,v,true⟩::tr)) (oA e i.dst .undef fun e1=>Kx l e1 h fun tr=>k (⟨h,i.args.map e.ev,.undef,false⟩::tr))
    |false=>Fs b (oA e i.dst .undef fun e1=>Kx l e1 h fun tr=>k (⟨h,i.args.map e.ev,.undef,false⟩::tr)) (xx e i.args fun vals=>rN fs ms z i.op vals h fun v h1=>oA e i.dst v fun e1=>Kx l e1 h1 fun tr=>k (⟨h,vals,v,true⟩::tr))
   |some _=>oA e i.dst .undef fun e1=>Kx l e1 h fun tr=>k (⟨h,i.args.map e.ev,.undef,false⟩::tr)
   |none=>False
def xO:AC→Env→Heap→(AX→Env→Heap→Prop)→Prop
 |.skip,e,h,k=>k .normal e h
 |.ops l,e,h,k=>GJ fs ms z l e h fun e h=>k .normal e h
 |.cj l win,e,h,k=>match win.all (·.isEmpty) with
  |true=>GJ fs ms z l e h fun e h=>k .normal e h
  |false=>Kx fs ms z l e h fun tr e1 h1=>Cd l win tr h1∧k .normal e1 h1
 |.seq a b,e,h,k=>xO a e h fun x e1 h1=>match x with
  |.normal=>xO b e1 h1 k
  |x=>k x e1 h1
 |.cond c a b,e,h,k=>SF e c fun v=>match v with
  |.bool t=>Fs t (xO a e h k) (xO b e h k)
  |_=>False
 |.block id c,e,h,k=>xO c e h fun x e1 h1=>match x with
  |.exit i=>match Nat.beq i id with
   |true=>k .normal e1 h1
   |false=>k (.exit i) e1 h1
  |x=>k x e1 h1
 |.loop c,e,h,k=>VC fs ms B rd (.loop c) e h k
 |.rangeFunc f ps a b,e,h,k=>VC fs ms B rd (.rangeFunc f ps a b) e h k
 |.exit id,e,h,k=>k (.exit id) e h
 |.ret,e,h,k=>k .ret e h
 |.bad,_,_,_=>False
end
section
variable {fs:Nat→Option ak} {ms:Nat→String→Option Nat} {B:Nat} {rd:Bool} {z:Bool}
theorem sJ{α:Type}{o:Option α}{k:α→Prop}(h:lX o k):∃v,o=some v∧k v:=by
 cases o with
 |none=>exact h.elim
 |some v=>exact⟨v,rfl,h⟩
theorem tw{e:Env}{r:bG}{k:AV→Prop}(h:SF e r k):dI e [r]=true∧k (e.ev r):=by
 cases r with
 |t i=>
  simp only[SF] at h;split at h
  ·rename_i v hv;exact⟨by simp[dI,hv],by simp only[Env.ev,CQ hv];exact h⟩
  ·exact h.elim
 |c v=>exact⟨rfl,h⟩
theorem AJ{e:Env}{r:bG}{l:List bG}(h1:dI e [r]=true)(h2:dI e l=true):dI e (r::l)=true:=by
 cases r with
 |t i=>simp only[dI,Bool.and_true] at h1⊢;rw[h1,h2];rfl
 |c v=>exact h2
theorem qY{e:Env}:∀{l:List bG} {k:List AV→Prop},xx e l k→dI e l=true∧k (l.map e.ev)
 |[],k,h=>⟨rfl,h⟩
 |r::l,k,h=>by
  obtain⟨h1,h2⟩:=tw h;obtain⟨h3,h4⟩:=qY h2;exact⟨AJ h1 h3,h4⟩
theorem EB{h:Heap}{x:dD}{k:Nat→Heap→Prop}(hn:NQ z h x k):k h.next (h.new x):=by
 cases z with
 |true=>exact hn
 |false=>simp only[NQ,Ag] at hn;exact hn
theorem OP{h:Heap}{b:Nat}{x:dD}{k:Heap→Prop}(hn:Si z h b x k):k (h.set b x):=by
 cases z with
 |true=>exact hn
 |false=>simp only[Si,Ag] at hn;exact hn
theorem iH{t:Bool}{X Y:Prop}(h:Fs t X Y):(t=true∧X)∨(t=false∧Y):=by
 cases t with
 |true=>exact .inl ⟨rfl,h⟩
 |false=>exact .inr ⟨rfl,h⟩
theorem Al{h:Heap}{b o:Nat}{xs:List AV}{k:Heap→Prop}(hs:DD z h b o xs k):∃h1,h.fy b o xs=some h1∧k h1:=by
 unfold DD at hs;split at hs
 ·rename_i vs es hg;rcases iH hs with⟨h1,h2⟩|⟨_,h2⟩
  ·refine⟨_,?_,OP h2⟩;simp only[Heap.fy,hg,h1,cond_true]
  ·exact h2.elim
 ·exact hs.elim
theorem w7{o:fH}{vals:List AV}{h:Heap}{k:AV→Heap→Prop}(hw:rN fs ms z o vals h k):∃v h1,(∀B,VS fs ms B (.op rd o vals h) (.val v h1))∧k v h1:=by
 cases o with
 |p o=>
  simp only[rN] at hw;split at hw
  ·split at hw
   ·rename_i c a b;rcases iH hw with⟨rfl,h2⟩|⟨rfl,h2⟩
    ·exact⟨_,_,fun _=>.KQ (v:=a) rfl,h2⟩
    ·exact⟨_,_,fun _=>.KQ (v:=b) rfl,h2⟩
   ·exact hw.elim
  ·split at hw
   ·obtain⟨v,h1,h2⟩:=sJ hw;exact⟨v,h,fun _=>.KQ h1,h2⟩
   ·obtain⟨v,h1,h2⟩:=hw;exact⟨v,h,fun _=>.KQ h1,h2⟩
 |a o=>
  simp only[rN] at hw;split at hw
  ·obtain⟨x,f,h1,h2⟩:=hw;exact⟨_,_,fun _=>.SS h1,EB h2⟩
  ·split at hw
   ·rename_i x f hv;rw[PS] at hv;exact⟨_,_,fun _=>.SS hv,EB hw⟩
   ·exact hw.elim
 |r o=>
  simp only[rN] at hw;split at hw
  ·obtain⟨v,h3,h4⟩:=hw;exact⟨v,h,fun _=>.Jm h3,h4⟩
  split at hw
  ·rename_i n;unfold I8 at hw;split at hw
   ·rename_i cs o;rcases iH hw with⟨h1,h2⟩|⟨_,h2⟩
    ·simp only[Bool.and_eq_true] at h1;have e1:=Nat.eq_of_beq_eq_true h1.1;have e2:=Nat.eq_of_beq_eq_true h1.2;subst e1 e2;refine⟨_,_,fun _=>.Jm (v:=.agg cs) ?_,h2⟩;simp only[rV,l1,Nat.zero_add,List.drop_zero,List.take_length];rw[Nat.ble_eq_true_of_le (Nat.le_refl _)];rfl
    ·obtain⟨v,h3,h4⟩:=sJ h2;exact⟨v,h,fun _=>.Jm h3,h4⟩
   ·obtain⟨v,h3,h4⟩:=sJ hw;exact⟨v,h,fun _=>.Jm h3,h4⟩
  ·obtain⟨v,h3,h4⟩:=sJ hw;exact⟨v,h,fun _=>.Jm h3,h4⟩
 |e o=>
  simp only[rN] at hw;split at hw
  ·obtain⟨v,h1,h2,h3⟩:=hw;exact⟨v,h1,fun _=>.RQ h2,h3⟩
  split at hw
  ·rename_i n;split at hw
   ·rename_i b o v;rcases iH hw with⟨h1,h2⟩|⟨_,h2⟩
    ·obtain⟨g1,h3,h4⟩:=Al h2;refine⟨_,_,fun _=>.RQ (v:=.undef) (h1:=g1) ?_,h4⟩;show eI (.store n) [.ptr b o,v] h=_;simp only[eI,h1,cond_true,h3,Option.map_some]
    ·exact h2.elim
   ·exact hw.elim
  ·obtain⟨v,h1,h2,h3⟩:=hw;exact⟨v,h1,fun _=>.RQ h2,h3⟩
 |call=>
  simp only[rN] at hw;split at hw
  ·obtain⟨v,h1,hb,hk⟩:=hw;exact⟨v,h1,fun B=>.tM (.fD (hb B)),hk⟩
  ·obtain⟨v,h1,hb,hk⟩:=hw;exact⟨v,h1,fun B=>.tM (hb B),hk⟩
  ·exact hw.elim
 |invoke name=>
  simp only[rN] at hw;split at hw
  ·split at hw
   ·rename_i f hf;obtain⟨v,h1,hb,hk⟩:=hw;exact⟨v,h1,fun B=>.o6 hf (hb B),hk⟩
   ·exact hw.elim
  ·exact hw.elim
 |panic=>exact hw.elim
 |bad=>exact hw.elim
theorem qm:∀{l:List bF} {e:Env} {h:Heap} {k:Env→Heap→Prop},GJ fs ms z l e h k→VO fs ms B rd l e h k
 |[],e,h,k,hw=>⟨_,_,_,.nil,hw⟩
 |i::l,e,h,k,hw=>by
  have eM:cT i e=some true→(xx e i.args fun vals=>rN fs ms z i.op vals h fun v h1=>oA e i.dst v fun e1=>GJ fs ms z l e1 h1 k)→VO fs ms B rd (i::l) e h k:=by
   intro su hw;obtain⟨ha,hw⟩:=qY hw;obtain⟨v,h1,hb,hk⟩:=w7 (rd:=rd) hw;rw[vj] at hk;obtain⟨tr,e',h',hl,hk⟩:=qm hk;exact⟨_,_,_,.on su ha (hb B) hl,hk⟩
  have hoff:cT i e=some false→(oA e i.dst .undef fun e1=>GJ fs ms z l e1 h k)→VO fs ms B rd (i::l) e h k:=by
   intro su hk;rw[vj] at hk;obtain⟨tr,e',h',hl,hk⟩:=qm hk;exact⟨_,_,_,.off su hl,hk⟩
  unfold GJ at hw;split at hw
  ·rename_i hg;exact eM (by simp[cT,hg]) hw
  ·rename_i d want hg;split at hw
   ·rename_i b hb;split at hw
    ·rcases iH hw with⟨rfl,h2⟩|⟨rfl,h2⟩
     ·exact eM (by simp[cT,hg,hb]) h2
     ·exact hoff (by simp[cT,hg,hb]) h2
    ·rcases iH hw with⟨rfl,h2⟩|⟨rfl,h2⟩
     ·exact hoff (by simp[cT,hg,hb]) h2
     ·exact eM (by simp[cT,hg,hb]) h2
   ·rename_i v hne hv;refine hoff ?_ hw;cases v with
    |bool b=>exact absurd rfl (hne b)
    |_=>simp only[cT,hg,hv]
   ·exact hw.elim
theorem tZ:∀{l:List bF} {e:Env} {h:Heap} {k:List aM→Env→Heap→Prop},Kx fs ms z l e h k→∃tr e' h',VS fs ms B (.ops rd l e h) (.ops tr e' h')∧k tr e' h'
 |[],e,h,k,hw=>⟨_,_,_,.nil,hw⟩
 |i::l,e,h,k,hw=>by
  have eM:cT i e=some true→(xx e i.args fun vals=>rN fs ms z i.op vals h fun v h1=>oA e i.dst v fun e1=>Kx fs ms z l e1 h1 fun tr=>k (⟨h,vals,v,true⟩::tr))→∃tr e' h',VS fs ms B (.ops rd (i::l) e h) (.ops tr e' h')∧k tr e' h':=by
   intro su hw;obtain⟨ha,hw⟩:=qY hw;obtain⟨v,h1,hb,hk⟩:=w7 (rd:=rd) hw;rw[vj] at hk;obtain⟨tr,e',h',hl,hk⟩:=tZ hk;exact⟨_,_,_,.on su ha (hb B) hl,hk⟩
  have hoff:cT i e=some false→(oA e i.dst .undef fun e1=>Kx fs ms z l e1 h fun tr=>k (⟨h,i.args.map e.ev,.undef,false⟩::tr))→∃tr e' h',VS fs ms B (.ops rd (i::l) e h) (.ops tr e' h')∧k tr e' h':=by
   intro su hk;rw[vj] at hk;obtain⟨tr,e',h',hl,hk⟩:=tZ hk;exact⟨_,_,_,.off su hl,hk⟩
  unfold Kx at hw;split at hw
  ·rename_i hg;exact eM (by simp[cT,hg]) hw
  ·rename_i d want hg;split at hw
   ·rename_i b hb;split at hw
    ·rcases iH hw with⟨rfl,h2⟩|⟨rfl,h2⟩
     ·exact eM (by simp[cT,hg,hb]) h2
     ·exact hoff (by simp[cT,hg,hb]) h2
    ·rcases iH hw with⟨rfl,h2⟩|⟨rfl,h2⟩
     ·exact hoff (by simp[cT,hg,hb]) h2
     ·exact eM (by simp[cT,hg,hb]) h2
   ·rename_i v hne hv;refine hoff ?_ hw;cases v with
    |bool b=>exact absurd rfl (hne b)
    |_=>simp only[cT,hg,hv]
   ·exact hw.elim
theorem an:∀{c:AC} {e:Env} {h:Heap} {k:AX→Env→Heap→Prop},xO fs ms B rd z c e h k→VC fs ms B rd c e h k
 |.skip,e,h,k,hw=>⟨_,_,_,.skip,hw⟩
 |.ops l,e,h,k,hw=>by
  obtain⟨tr,e',h',hb,hk⟩:=qm (B:=B) (rd:=rd) (show GJ fs ms z l e h _ from hw);exact⟨_,_,_,.ops hb,hk⟩
 |.cj l win,e,h,k,hw=>by
  unfold xO at hw;split at hw
  ·rename_i Bs;obtain⟨tr,e',h',hb,hk⟩:=qm (B:=B) (rd:=rd) hw;exact⟨_,_,_,.cj Bs hb,hk⟩
  ·obtain⟨tr,e',h',hb,hk⟩:=tZ (B:=B) (rd:=rd) hw;exact⟨_,_,_,.Pd hk.1 hb,hk.2⟩
 |.seq a b,e,h,k,hw=>by
  obtain⟨x,e1,h1,hb,hk⟩:=an (show xO fs ms B rd z a e h _ from hw);cases x with
  |normal=>
   obtain⟨x2,e2,h2,kM,hk2⟩:=an (show xO fs ms B rd z b e1 h1 k from hk);exact⟨_,_,_,.Dz hb kM,hk2⟩
  |exit i=>exact⟨_,_,_,.tT hb rfl,hk⟩
  |ret=>exact⟨_,_,_,.tT hb rfl,hk⟩
  |panic v=>exact⟨_,_,_,.tT hb rfl,hk⟩
 |.cond c a b,e,h,k,hw=>by
  obtain⟨ha,hw⟩:=tw (show SF e c _ from hw);split at hw
  ·rename_i t ht;rcases iH hw with⟨rfl,h2⟩|⟨rfl,h2⟩
   ·obtain⟨x,e1,h1,hb,hk⟩:=an h2;exact⟨_,_,_,.cond ha ht hb,hk⟩
   ·obtain⟨x,e1,h1,hb,hk⟩:=an h2;exact⟨_,_,_,.cond ha ht hb,hk⟩
  ·exact hw.elim
 |.block id c,e,h,k,hw=>by
  obtain⟨x,e1,h1,hb,hk⟩:=an (show xO fs ms B rd z c e h _ from hw);cases x with
  |exit i=>
   simp only at hk;split at hk
   ·rename_i Wl;have:=Nat.eq_of_beq_eq_true Wl;subst this;exact⟨_,_,_,.tf hb,hk⟩
   ·rename_i Wl;refine⟨_,_,_,.kr hb ?_,hk⟩;intro j hj hji;simp only[AX.exit.injEq] at hj;subst hj hji;simp at Wl
  |normal=>exact⟨_,_,_,.kr hb (by simp),hk⟩
  |ret=>exact⟨_,_,_,.kr hb (by simp),hk⟩
  |panic v=>exact⟨_,_,_,.kr hb (by simp),hk⟩
 |.loop c,e,h,k,hw=>hw
 |.rangeFunc f ps a b,e,h,k,hw=>hw
 |.exit id,e,h,k,hw=>⟨_,_,_,.exit,hw⟩
 |.ret,e,h,k,hw=>⟨_,_,_,.ret,hw⟩
 |.bad,e,h,k,hw=>hw.elim
def FF(rs:List s9)(Q:AV→Heap→Prop):AX→Env→Heap→Prop:=fun x e h=>match x with
 |.normal|.ret=>match dX e h rs with
  |some vs=>match vs with
   |[v]=>Q v h
   |vs=>Q (.cn vs) h
  |none=>False
 |_=>False
theorem E9{f:Nat}{af:ak}{args:List AV}{h:Heap}{Q:AV→Heap→Prop}(hf:fs f=some af)(hlen:args.length≤af.ntmps)
  (hw:VC fs ms h.next false af.body (Env.start af.ntmps args) h (FF af.results Q)):VD fs ms f args h Q:=by
 obtain⟨x,e1,h1,hb,hk⟩:=hw;have hx:x=.normal∨x=.ret:=by
  cases x with
  |normal=>exact .inl rfl
  |ret=>exact .inr rfl
  |exit i=>exact hk.elim
  |panic v=>exact hk.elim
 have hk':∃vs,dX e1 h1 af.results=some vs∧Q (dP vs) h1:=by
  rcases hx with rfl|rfl<;>
  ·simp only[FF] at hk;split at hk
   ·rename_i vs hvs;refine⟨vs,hvs,?_⟩;rcases vs with _|⟨v,_|⟨u,r⟩⟩<;>exact hk
   ·exact hk.elim
 obtain⟨vs,h2,h3⟩:=hk';exact⟨_,_,fun B=>.call hf hlen hb hx h2,h3⟩
theorem aj{f:Nat}{af:ak}{args:List AV}{h:Heap}{Q:AV→Heap→Prop}(z:Bool)(hf:fs f=some af)(hlen:args.length≤af.ntmps)
  (hw:Aj af.ntmps args fun e=>xO fs ms h.next false z af.body e h (FF af.results Q)):VD fs ms f args h Q:=by
 rw[yZ] at hw;exact E9 hf hlen (an hw)
theorem VD.mono{f:Nat}{args:List AV}{h:Heap}{Q Q':AV→Heap→Prop}(hc:VD fs ms f args h Q)(hq:∀v h',Q v h'→Q' v h'):VD fs ms f args h Q':=by
 obtain⟨v,h',hb,hk⟩:=hc;exact⟨v,h',hb,hq v h' hk⟩
theorem VC.mono{c:AC}{e:Env}{h:Heap}{Q Q':AX→Env→Heap→Prop}(hc:VC fs ms B rd c e h Q)(hq:∀x e' h',Q x e' h'→Q' x e' h'):VC fs ms B rd c e h Q':=by
 obtain⟨x,e',h',hb,hk⟩:=hc;exact⟨x,e',h',hb,hq x e' h' hk⟩
theorem dH{c:AC}{e:Env}{h:Heap}{Q:AX→Env→Heap→Prop}
  (hw:xO fs ms B rd z c e h fun x e1 h1=>match x with|.normal=>VC fs ms B rd (.loop c) e1 h1 Q|x=>Q x e1 h1):VC fs ms B rd (.loop c) e h Q:=by
 obtain⟨x,e1,h1,hb,hk⟩:=an hw;cases x with
 |normal=>
  obtain⟨x2,e2,h2,kM,hk2⟩:=hk;exact⟨_,_,_,.uu hb kM,hk2⟩
 |exit i=>exact⟨_,_,_,.iz hb rfl,hk⟩
 |ret=>exact⟨_,_,_,.iz hb rfl,hk⟩
 |panic v=>exact⟨_,_,_,.iz hb rfl,hk⟩
theorem PJ{c:AC}{e e':Env}{h h':Heap}{Q:AX→Env→Heap→Prop}{p:Nat→Nat}(hg:GC B p e h e' h')(hw:VC fs ms B rd c e' h' Q):VC fs ms B rd c e h Q:=by
 obtain⟨x,e1,h1,hb,hk⟩:=hw;exact⟨x,e1,h1,.gc hg hb,hk⟩
theorem pK{c:AC}{e:Env}{h:Heap}{Q:AX→Env→Heap→Prop}{i:Nat}{v v':AV}(bs:List Nat)(hi:Tr.get e i=some v)(hf:nu (· ∈bs) h v v')
  (hw:VC fs ms B rd c (Tr.set e i v') (fh bs h) Q):VC fs ms B rd c e h Q:=by
 obtain⟨x,e1,h1,hb,hk⟩:=hw;exact⟨x,e1,h1,.SG hi hf hb,hk⟩
def PC(fs:Nat→Option ak)(ms:Nat→String→Option Nat)(f:Nat)(args:List AV)(v:AV):Prop:=
 cC args=true∧v.cl=true∧VD fs ms f args ⟨0,.nil⟩ fun u g=>nu (fun _=>True) g u v
theorem cq{f:Nat}{args:List AV}{v:AV}(h1:cC args=true)(h2:v.cl=true)(h3:VD fs ms f args ⟨0,.nil⟩ fun u _=>u=v):PC fs ms f args v:=
 ⟨h1,h2,h3.mono fun u g hu=>hu▸.clean (hu▸h2)⟩
theorem aQ{f:Nat}{args:List AV}{h:Heap}{v:AV}{Q:AV→Heap→Prop}(hp:PC fs ms f args v)(hq:Q v h):VD fs ms f args h Q:=by
 obtain⟨h1,h2,u,g,hb,hf⟩:=hp;exact⟨v,h,fun B=>.pure (hb B) h1 hf h2,hq⟩
theorem HZ{P:Nat→Prop}{g:Heap}{v v':AV}(f:nu P g v v'):v'.pl=true→v=v':=by
 induction f with
 |clean _=>intro _;rfl
 |agg h1 _ ih=>
  intro hp;simp only[AV.pl] at hp;rename_i cs cs' _
  congr 1
  refine List.ext_getElem? fun i=>?_;cases hx:cs'[i]? with
  |none=>rw[List.getElem?_eq_none (by rw[h1];exact List.getElem?_eq_none_iff.1 hx)]
  |some x=>
   have hl:=(List.getElem?_eq_some_iff.1 hx).1;have hy:=List.getElem?_eq_getElem (l:=cs) (i:=i) (by rw[h1];exact hl);rw[hy,ih i _ x hy hx (iO hp hx)]
 |cn h1 _ ih=>
  intro hp;simp only[AV.pl] at hp;rename_i cs cs' _
  congr 1
  refine List.ext_getElem? fun i=>?_;cases hx:cs'[i]? with
  |none=>rw[List.getElem?_eq_none (by rw[h1];exact List.getElem?_eq_none_iff.1 hx)]
  |some x=>
   have hl:=(List.getElem?_eq_some_iff.1 hx).1;have hy:=List.getElem?_eq_getElem (l:=cs) (i:=i) (by rw[h1];exact hl);rw[hy,ih i _ x hy hx (iO hp hx)]
 |iface _ ih=>intro hp;rw[ih (by simpa[AV.pl] using hp)]
 |aK=>intro hp;simp[AV.pl] at hp
 |sl=>intro hp;simp[AV.pl] at hp
 |ptr=>intro hp;simp[AV.pl] at hp
 |func h1 _ h2 _ ih1 ih2=>
  intro hp;simp only[AV.pl,Bool.and_eq_true] at hp;rename_i fn a a' c c' _ _
  congr 1
  ·refine List.ext_getElem? fun i=>?_;cases hx:a'[i]? with
   |none=>rw[List.getElem?_eq_none (by rw[h1];exact List.getElem?_eq_none_iff.1 hx)]
   |some x=>
    have hl:=(List.getElem?_eq_some_iff.1 hx).1;have hy:=List.getElem?_eq_getElem (l:=a) (i:=i) (by rw[h1];exact hl);rw[hy,ih1 i _ x hy hx (iO hp.1.1 hx)]
  ·refine List.ext_getElem? fun i=>?_;cases hx:c'[i]? with
   |none=>rw[List.getElem?_eq_none (by rw[h2];exact List.getElem?_eq_none_iff.1 hx)]
   |some x=>
    have hl:=(List.getElem?_eq_some_iff.1 hx).1;have hy:=List.getElem?_eq_getElem (l:=c) (i:=i) (by rw[h2];exact hl);rw[hy,ih2 i _ x hy hx (iO hp.1.2 hx)]
theorem fQ{f:Nat}{args args':List AV}{h:Heap}{v:AV}{Q:AV→Heap→Prop}(hp:PC fs ms f args' v)(j5:v.pl=true)(hf:qQ (fun _=>True) h args args')(hq:Q v h):VD fs ms f args h Q:=by
 obtain⟨h1,h2,u,g,hb,hu⟩:=hp;have:=HZ hu j5;subst this;exact⟨_,h,fun B=>.view hf h1 (hb B) j5,hq⟩
def Cr(s:Nat)(l:List AV)(v:AV)(g:Heap):Prop:=(l=[]∧v=.aK)∨∃b,v=.sl b 0 l.length l.length true∧g.get b=some (.cells (aa l) true s)
theorem w6{f s:Nat}{args args':List AV}{h:Heap}{l:List AV}{Q:AV→Heap→Prop}(kW:cC args'=true)(j5:l9 (aa l)=true)(hd:VD fs ms f args' ⟨0,.nil⟩ (Cr s l))(hf:qQ (fun _=>True) h args args')
  (h0:l=[]→Q .aK h)(h1:Q (.sl h.next 0 l.length l.length true) (h.new (.cells (aa l) true s))):VD fs ms f args h Q:=by
 obtain⟨v,g,hb,hk⟩:=hd;rcases hk with⟨hl,hv⟩|⟨b,hv,hg⟩
 ·subst hv;exact⟨_,h,fun B=>.view hf kW (hb B) rfl,h0 hl⟩
 ·subst hv;exact⟨_,_,fun B=>.PL hf kW (hb B) hg j5,h1⟩
theorem qQ.nil{P:Nat→Prop}{g:Heap}:qQ P g [] []:=⟨rfl,fun i x y hx=>by simp at hx⟩
theorem qQ.cons{P:Nat→Prop}{g:Heap}{x y:AV}{l m:List AV}(h1:nu P g x y)(h2:qQ P g l m):qQ P g (x::l) (y::m):=by
 refine⟨by simp[h2.1],fun i a b ha hb=>?_⟩;cases i with
 |zero=>simp at ha hb;subst ha hb;exact h1
 |succ i=>exact h2.2 i a b (by simpa using ha) (by simpa using hb)
theorem qQ.clean{P:Nat→Prop}{g:Heap}{l:List AV}(h:cC l=true):qQ P g l l:=
 ⟨rfl,fun i x y hx hy=>by rw[hx] at hy;cases hy;exact .clean (fK h hx)⟩
theorem nu.func'{P:Nat→Prop}{g:Heap}{fn:Fn}{a a' c c':List AV}(h:qQ P g a a')(h':qQ P g c c'):nu P g (.func fn a c) (.func fn a' c'):=.func h.1 h.2 h'.1 h'.2
theorem nu.ptr'{P:Nat→Prop}{g:Heap}{b o:Nat}{vs cs:List AV}{wr:Bool}{es:Nat}(hb:P b)(hg:g.get b=some (.cells vs wr es))(h:qQ P g vs cs):nu P g (.ptr b o) (.fp cs o):=
 .ptr (base:=0) hb hg (by simp) (by rw[h.1];simp) fun j c y hc hy=>by rw[Nat.zero_add] at hy;exact h.2 j y c hy hc
theorem nu.row{P:Nat→Prop}{g:Heap}{b len cap k s:Nat}{op:Bool}{l vs:List AV}{wr:Bool}{es:Nat}(hb:P b)(hg:g.get b=some (.cells vs wr es))(hv:vs=aa l)(hs:aN s l=true)
  (hlen:len=l.length)(hcap:len≤cap)(hk:k≤2)(h1:1≤k→op=false)(h2:2≤k→cap=len)(kW:cC l=true):nu P g (.sl b 0 len cap op) (.fz k l):=by
 subst hv;have hf:=jX hs;refine .sl hb hg hs hlen (by rw[hf.1];simp) hcap hk h1 h2 ?_;intro i x j c y hx hc hy;rw[Nat.zero_add] at hy;obtain⟨i',x',j',a1,a2,a3⟩:=hf.2 _ _ hy;have e1:=cU hs hx;have e2:=cU hs a1;have l1:=(List.getElem?_eq_some_iff.1 hc).1;have l2:=(List.getElem?_eq_some_iff.1 a2).1;have hsp:0<s:=by omega
 have hi:i=i':=by
  have q1:(i*s+j)/s=i:=by rw[Nat.mul_comm,Nat.mul_add_div hsp,Nat.div_eq_of_lt (by omega)];omega
  have q2:(i'*s+j')/s=i':=by rw[Nat.mul_comm,Nat.mul_add_div hsp,Nat.div_eq_of_lt (by omega)];omega
  rw[←q1,a3,q2]
 subst hi;have hj:j=j':=by omega
 subst hj;rw[hx] at a1;cases a1
 rw[hc] at a2;cases a2
 exact .clean (fK (oL (fK kW hx)) hc)
def ek(d:Nat)(l:List (Nat×AV)):Env:=sk d (kn l fun _=>none)
def hk(n:Nat)(l:List (Nat×dD)):Heap:=⟨n,l.foldr (fun p t=>Tr.set t p.1 p.2) .nil⟩
theorem tV:∀(d:Nat) (g:Nat→Option AV) (i:Nat) (v:AV),Tr.get (sk d g) i=some v→g i=some v
 |0,g,i,v,h=>by simp[sk,Tr.get] at h
 |d+1,g,i,v,h=>by
  rcases Nat.eq_zero_or_pos i with rfl|hi
  ·simpa[sk,Tr.get] using h
  ·rcases Nat.mod_two_eq_zero_or_one i with h2|h2
   ·rw[sk,Tr.lJ _ _ h2 (by omega)] at h;have:=tV d _ _ v h;rw[←this]
    congr 1
    omega
   ·rw[sk,Tr.nM _ _ h2] at h;have:=tV d _ _ v h;rw[←this]
    congr 1
    omega
def kJ(p:Nat→Nat)(n:Nat)(e:Env):List (Nat×AV)→Prop
 |[]=>True
 |(i,v)::l=>(∃u,Tr.get e i=some u∧uG p n v u)∧kJ p n e l
theorem tQ{p:Nat→Nat}{n:Nat}{e:Env}:∀{l:List (Nat×AV)},kJ p n e l→∀{i:Nat} {v:AV},kn l (fun _=>none) i=some v→∃u,Tr.get e i=some u∧uG p n v u
 |[],_,i,v,hv=>by simp[kn] at hv
 |(j,w)::l,h,i,v,hv=>by
  simp only[kn] at hv;cases hb:Nat.beq i j with
  |false=>rw[hb] at hv;exact tQ h.2 hv
  |true=>
   have:=Nat.eq_of_beq_eq_true hb;subst this;rw[hb] at hv;simp only[cond_true,Option.some.injEq] at hv;subst hv;exact h.1
def xQ(p:Nat→Nat)(n:Nat)(h:Heap):List (Nat×dD)→Prop
 |[]=>True
 |(b,x)::l=>b<n∧(∃y,h.get (p b)=some y∧xg p n x y)∧xQ p n h l
theorem vZ{n:Nat}:∀{l:List (Nat×dD)} {b:Nat} {x:dD},(hk n l).get b=some x→(b,x)∈l
 |[],b,x,h=>by simp[hk,Heap.get,Tr.get] at h
 |(c,y)::l,b,x,h=>by
  have:(Tr.set (l.foldr (fun p t=>Tr.set t p.1 p.2) .nil) c y).get b=some x:=h;rw[Tr.bS] at this;split at this
  ·rename_i he;cases this;subst he;exact List.mem_cons_self
  ·exact List.mem_cons_of_mem _ (vZ (n:=n) this)
theorem td{p:Nat→Nat}{n:Nat}{h:Heap}:∀{l:List (Nat×dD)},xQ p n h l→∀{b:Nat} {x:dD},(b,x)∈l→b<n∧∃y,h.get (p b)=some y∧xg p n x y
 |[],_,b,x,hm=>by simp at hm
 |(c,y)::l,hl,b,x,hm=>by
  rcases List.mem_cons.1 hm with he|hm
  ·cases he;exact⟨hl.1,hl.2.1⟩
  ·exact td hl.2.2 hm
theorem PK{c:AC}{e:Env}{h:Heap}{Q:AX→Env→Heap→Prop}(d:Nat)(l:List (Nat×AV))(n:Nat)(m:List (Nat×dD))(p:Nat→Nat)(hl:kJ p n e l)(hm:xQ p n h m)
  (hp:∀b c,b∈m.map (·.1)→c∈m.map (·.1)→p b=p c→b=c)(CZ:∀b,b<B→p b=b)(hn:B≤n)
  (hw:VC fs ms B rd c (ek d l) (hk n m) Q):VC fs ms B rd c e h Q:=by
 refine PJ (p:=p) ⟨?_,?_,?_,CZ,hn⟩ hw
 ·intro i v hv;exact tQ hl (tV d _ i v hv)
 ·intro b x hx;exact td hm (vZ hx)
 ·intro b c hb hc he;have mem:∀b,(hk n m).get b≠none→b∈m.map (·.1):=by
   intro b hb;cases hx:(hk n m).get b with
   |none=>exact absurd hx hb
   |some x=>exact List.mem_map.2 ⟨(b,x),vZ hx,rfl⟩
  exact hp b c (mem b hb) (mem c hc) he
theorem gX{c:AC}{e:Env}{h:Heap}{Q:AX→Env→Heap→Prop}(d:Nat)(l:List (Nat×AV))(hl:kJ id 0 e l)
  (hw:VC fs ms 0 rd c (ek d l) (hk 0 []) Q):VC fs ms 0 rd c e h Q:=
 PK d l 0 [] id hl trivial (fun b c hb=>by simp at hb) (fun b hb=>rfl) (Nat.le_refl _) hw
theorem AB{e:Env}:∀{l:List (Nat×AV)},dr e l→∀{i:Nat} {v:AV},kn l (fun _=>none) i=some v→Tr.get e i=some v
 |[],_,i,v,hv=>by simp[kn] at hv
 |(j,w)::l,h,i,v,hv=>by
  simp only[kn] at hv;cases hb:Nat.beq i j with
  |false=>rw[hb] at hv;exact AB h.2 hv
  |true=>
   have:=Nat.eq_of_beq_eq_true hb;subst this;rw[hb] at hv;simp only[cond_true,Option.some.injEq] at hv;subst hv;exact h.1
theorem aG{c:AC}{e:Env}{h:Heap}{Q:AX→Env→Heap→Prop}(d:Nat)(l:List (Nat×AV))(hl:dr e l)(hw:VC fs ms B rd c (ek d l) h Q):VC fs ms B rd c e h Q:=by
 obtain⟨x,e1,h1,hb,hk⟩:=hw;exact⟨x,e1,h1,.drop (fun i v hv=>AB hl (tV d _ i v hv)) hb,hk⟩
theorem aU{p:Nat→Nat}{n:Nat}{e:Env}{i:Nat}{v:AV}{l:List (Nat×AV)}(h:Tr.get e i=some v)(hc:v.cl=true)(hl:kJ p n e l):kJ p n e ((i,v)::l):=⟨⟨v,h,.cl hc⟩,hl⟩
end
end Ads
end Go.Proofs.YtnlcabhfkpafmaaGreat
