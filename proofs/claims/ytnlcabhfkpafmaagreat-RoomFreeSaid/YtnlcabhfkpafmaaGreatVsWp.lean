/-
  What code must come to in Vs, as a proposition that is worked out from the code.
-/
import Derived.Test.YtnlcabhfkpafmaaGreatVsSim
import Derived.Test.YtnlcabhfkpafmaaGreatAdsEvalX
set_option linter.unusedSimpArgs false
set_option linter.unusedVariables false
namespace Go.Proofs.YtnlcabhfkpafmaaGreat
namespace Ads
abbrev jS{α:Type}(o:Option α)(k:α→Prop):Prop:=@Option.rec α (fun _=>Prop) False k o
theorem Fk{α:Type}{o:Option α}{k:α→Prop}{v:α}(h:o=some v)(hk:k v):@Option.rec α (fun _=>Prop) False k o:=by rw[h];exact hk
section
variable (fs:Nat→Option aq) (ms:Nat→String→Option Nat) (B:Nat) (rd:Bool) (z:Bool)
def VC(c:AC)(e:Env)(h:Heap)(Q:AX→Env→Heap→Prop):Prop:=∃x e' h',VS fs ms B (.code rd c e h) (.code x e' h')∧Q x e' h'
def VO(l:List bu)(e:Env)(h:Heap)(Q:Env→Heap→Prop):Prop:=∃tr e' h',VS fs ms B (.ops rd l e h) (.ops tr e' h')∧Q e' h'
def VD(f:Nat)(args:List AV)(h:Heap)(Q:AV→Heap→Prop):Prop:=∃v h',(∀B,VS fs ms B (.call f args h) (.val v h'))∧Q v h'
def SY(e:Env)(r:bE)(k:AV→Prop):Prop:=match r with
 |.t i=>match Tr.get e i with
  |some v=>k v
  |none=>False
 |.c v=>k v
def zW(e:Env)(l:List bE):(List AV→Prop)→Prop:=
 List.rec (motive:=fun _=>(List AV→Prop)→Prop) (fun k=>k []) (fun r _ ih k=>SY e r fun v=>ih fun vs=>k (v::vs)) l
def Oe(h:Heap)(x:ck)(k:Nat→Heap→Prop):Prop:=match z with
 |true=>k h.next (h.new x)
 |false=>match h with
  |⟨n,m⟩=>Cn m n x fun t=>k n ⟨n+1,t⟩
def Sv(h:Heap)(b:Nat)(x:ck)(k:Heap→Prop):Prop:=match z with
 |true=>k (h.set b x)
 |false=>match h with
  |⟨n,m⟩=>Cn m b x fun t=>k ⟨n,t⟩
def D2(h:Heap)(b o:Nat)(xs:List AV)(k:Heap→Prop):Prop:=match h.get b with
 |some (.cells vs true es)=>zD (Nat.ble (o+xs.length) vs.length&&bz xs) (Sv z h b (.cells (Heap.splice vs o xs) true es) k) False
 |_=>False
def Kg(n:Nat)(vals:List AV)(h:Heap)(k:AV→Prop):Prop:=match vals with
 |[.fp cs o]=>zD (Nat.beq o 0&&Nat.beq n cs.length) (k (.agg cs)) (jS (rV (.bf n) [.fp cs o] h) k)
 |vals=>jS (rV (.bf n) vals h) k
def VQ(o:qk)(vals:List AV):Bool:=
 match o with
 |.bin op=>match vals with
  |.str _::_=>match op with
   |.add=>false
   |_=>true
  |_=>match op with
   |.quo|.rem|.shl|.shr=>false
   |_=>true
 |.aG _|.dR _ _|.GK _ _ _|.BO|.slice _ _ _ _|.mw _ _|.mu _ _ _ _ _=>false
 |_=>true
def so(o:fZ)(vals:List AV)(h:Heap)(k:AV→Heap→Prop):Prop:=
 match o with
 |.p o=>match o with
  |.pick=>match vals with
   |[.bool c,a,b]=>zD c (k a h) (k b h)
   |_=>False
  |o=>match VQ o vals with
   |true=>jS (pV o vals) fun v=>k v h
   |false=>∃v,pV o vals=some v∧k v h
 |.a o=>match o with
  |.jH zs n b=>∃x f,aI (.jH zs n b) vals=some (x,f)∧Oe z h x fun b h1=>k (f b) h1
  |o=>match WZ o vals with
   |some (x,f)=>Oe z h x fun b h1=>k (f b) h1
   |none=>False
 |.r o=>match z with
  |true=>∃v,rV o vals h=some v∧k v h
  |false=>match o with
   |.bf n=>Kg n vals h fun v=>k v h
   |o=>jS (rV o vals h) fun v=>k v h
 |.e o=>match z with
  |true=>∃v h1,eV o vals h=some (v,h1)∧k v h1
  |false=>match o with
   |.store n=>match vals with
    |[.ptr b o,v]=>zD (Nat.beq v.cells.length n) (D2 z h b o v.cells fun h1=>k .undef h1) False
    |_=>False
   |o=>∃v h1,eV o vals h=some (v,h1)∧k v h1
 |.call=>match vals with
  |.func (.func f) first aF::args=>VD fs ms f (first++(args++aF)) h k
  |fv::args=>∃v h1,(∀B,VS fs ms B (.cO fv args h) (.val v h1))∧k v h1
  |[]=>False
 |.invoke name=>match vals with
  |.iface t x::args=>match ms t name with
   |some f=>VD fs ms f (x::args) h k
   |none=>False
  |_=>False
 |_=>False
def SE(i:bu)(ih:Env→Heap→(Env→Heap→Prop)→Prop)(e:Env)(h:Heap)(k:Env→Heap→Prop):Prop:=match i.guard with
  |none=>zW e i.args fun vals=>so fs ms z i.op vals h fun v h1=>jA e i.dst v fun e1=>ih e1 h1 k
  |some (d,want)=>match Tr.get e d with
   |some (.bool b)=>match want with
    |true=>zD b (zW e i.args fun vals=>so fs ms z i.op vals h fun v h1=>jA e i.dst v fun e1=>ih e1 h1 k) (jA e i.dst .undef fun e1=>ih e1 h k)
    |false=>zD b (jA e i.dst .undef fun e1=>ih e1 h k) (zW e i.args fun vals=>so fs ms z i.op vals h fun v h1=>jA e i.dst v fun e1=>ih e1 h1 k)
   |some _=>jA e i.dst .undef fun e1=>ih e1 h k
   |none=>False
def PX(l:List bu):Env→Heap→(Env→Heap→Prop)→Prop:=
 List.rec (motive:=fun _=>Env→Heap→(Env→Heap→Prop)→Prop) (fun e h k=>k e h) (fun i _ ih=>SE fs ms z i ih) l
def SF(i:bu)(ih:Env→Heap→(List aJ→Env→Heap→Prop)→Prop)(e:Env)(h:Heap)(k:List aJ→Env→Heap→Prop):Prop:=match i.guard with
  |none=>zW e i.args fun vals=>so fs ms z i.op vals h fun v h1=>jA e i.dst v fun e1=>ih e1 h1 fun tr=>k (⟨h,vals,v,true⟩::tr)
  |some (d,want)=>match Tr.get e d with
   |some (.bool b)=>match want with
    |true=>zD b (zW e i.args fun vals=>so fs ms z i.op vals h fun v h1=>jA e i.dst v fun e1=>ih e1 h1 fun tr=>k (⟨h,vals,v,true⟩::tr)) (jA e i.dst .undef fun e1=>ih e1 h fun tr=>k (⟨h,i.args.map e.ev,.undef,false⟩::tr))
    |false=>zD b (jA e i.dst .undef fun e1=>ih e1 h fun tr=>k (⟨h,i.args.map e.ev,.undef,false⟩::tr)) (zW e i.args fun vals=>so fs ms z i.op vals h fun v h1=>jA e i.dst v fun e1=>ih e1 h1 fun tr=>k (⟨h,vals,v,true⟩::tr))
   |some _=>jA e i.dst .undef fun e1=>ih e1 h fun tr=>k (⟨h,i.args.map e.ev,.undef,false⟩::tr)
   |none=>False
def Ty(l:List bu):Env→Heap→(List aJ→Env→Heap→Prop)→Prop:=
 List.rec (motive:=fun _=>Env→Heap→(List aJ→Env→Heap→Prop)→Prop) (fun e h k=>k [] e h) (fun i _ ih=>SF fs ms z i ih) l
def AF(c:AC):Env→Heap→(AX→Env→Heap→Prop)→Prop:=
 AC.rec (motive:=fun _=>Env→Heap→(AX→Env→Heap→Prop)→Prop)
  (fun e h k=>k .normal e h)
  (fun l e h k=>PX fs ms z l e h fun e h=>k .normal e h)
  (fun l win e h k=>match win.all (·.isEmpty) with
   |true=>PX fs ms z l e h fun e h=>k .normal e h
   |false=>Ty fs ms z l e h fun tr e1 h1=>zk l win tr h1∧k .normal e1 h1)
  (fun _ _ ia ib e h k=>ia e h fun x e1 h1=>match x with
   |.normal=>ib e1 h1 k
   |x=>k x e1 h1)
  (fun c _ _ ia ib e h k=>SY e c fun v=>match v with
   |.bool t=>zD t (ia e h k) (ib e h k)
   |_=>False)
  (fun id _ ic e h k=>ic e h fun x e1 h1=>match x with
   |.exit i=>match Nat.beq i id with
    |true=>k .normal e1 h1
    |false=>k (.exit i) e1 h1
   |x=>k x e1 h1)
  (fun c _ e h k=>VC fs ms B rd (.loop c) e h k)
  (fun f ps a b _ _ e h k=>VC fs ms B rd (.rangeFunc f ps a b) e h k)
  (fun id e h k=>k (.exit id) e h)
  (fun e h k=>k .ret e h)
  (fun _ _ _=>False) c
end
section
variable {fs:Nat→Option aq} {ms:Nat→String→Option Nat} {B:Nat} {rd:Bool} {z:Bool}
theorem sX{α:Type}{o:Option α}{k:α→Prop}(h:jS o k):∃v,o=some v∧k v:=by
 cases o with
 |none=>exact h.elim
 |some v=>exact⟨v,rfl,h⟩
theorem tR{e:Env}{r:bE}{k:AV→Prop}(h:SY e r k):dP e [r]=true∧k (e.ev r):=by
 cases r with
 |t i=>
  simp only[SY] at h;split at h
  ·rename_i v hv;exact⟨by simp[dP,hv],by simp only[Env.ev,Dd hv];exact h⟩
  ·exact h.elim
 |c v=>exact⟨rfl,h⟩
theorem A0{e:Env}{r:bE}{l:List bE}(h1:dP e [r]=true)(h2:dP e l=true):dP e (r::l)=true:=by
 cases r with
 |t i=>simp only[dP,Bool.and_true] at h1⊢;rw[h1,h2];rfl
 |c v=>exact h2
theorem rL{e:Env}:∀{l:List bE} {k:List AV→Prop},zW e l k→dP e l=true∧k (l.map e.ev)
 |[],k,h=>⟨rfl,h⟩
 |r::l,k,h=>by
  obtain⟨h1,h2⟩:=tR h;obtain⟨h3,h4⟩:=rL h2;exact⟨A0 h1 h3,h4⟩
theorem Fg{h:Heap}{x:ck}{k:Nat→Heap→Prop}(hn:Oe z h x k):k h.next (h.new x):=by
 cases z with
 |true=>exact hn
 |false=>simp only[Oe,th] at hn;exact hn
theorem OP{h:Heap}{b:Nat}{x:ck}{k:Heap→Prop}(hn:Sv z h b x k):k (h.set b x):=by
 cases z with
 |true=>exact hn
 |false=>simp only[Sv,th] at hn;exact hn
theorem iK{t:Bool}{X Y:Prop}(h:zD t X Y):(t=true∧X)∨(t=false∧Y):=by
 cases t with
 |true=>exact .inl ⟨rfl,h⟩
 |false=>exact .inr ⟨rfl,h⟩
theorem AB{h:Heap}{b o:Nat}{xs:List AV}{k:Heap→Prop}(hs:D2 z h b o xs k):∃h1,h.di b o xs=some h1∧k h1:=by
 unfold D2 at hs;split at hs
 ·rename_i vs es hg;rcases iK hs with⟨h1,h2⟩|⟨_,h2⟩
  ·refine⟨_,?_,OP h2⟩;simp only[Heap.di,hg,h1,cond_true]
  ·exact h2.elim
 ·exact hs.elim
theorem xq{o:fZ}{vals:List AV}{h:Heap}{k:AV→Heap→Prop}(hw:so fs ms z o vals h k):∃v h1,(∀B,VS fs ms B (.op rd o vals h) (.val v h1))∧k v h1:=by
 cases o with
 |p o=>
  simp only[so] at hw;split at hw
  ·split at hw
   ·rename_i c a b;rcases iK hw with⟨rfl,h2⟩|⟨rfl,h2⟩
    ·exact⟨_,_,fun _=>.CE (v:=a) rfl,h2⟩
    ·exact⟨_,_,fun _=>.CE (v:=b) rfl,h2⟩
   ·exact hw.elim
  ·split at hw
   ·obtain⟨v,h1,h2⟩:=sX hw;exact⟨v,h,fun _=>.CE h1,h2⟩
   ·obtain⟨v,h1,h2⟩:=hw;exact⟨v,h,fun _=>.CE h1,h2⟩
 |a o=>
  simp only[so] at hw;split at hw
  ·obtain⟨x,f,h1,h2⟩:=hw;exact⟨_,_,fun _=>.Oh h1,Fg h2⟩
  ·split at hw
   ·rename_i x f hv;rw[CI] at hv;exact⟨_,_,fun _=>.Oh hv,Fg hw⟩
   ·exact hw.elim
 |r o=>
  simp only[so] at hw;split at hw
  ·obtain⟨v,h3,h4⟩:=hw;exact⟨v,h,fun _=>.tD h3,h4⟩
  split at hw
  ·rename_i n;unfold Kg at hw;split at hw
   ·rename_i cs o;rcases iK hw with⟨h1,h2⟩|⟨_,h2⟩
    ·simp only[Bool.and_eq_true] at h1;have e1:=Nat.eq_of_beq_eq_true h1.1;have e2:=Nat.eq_of_beq_eq_true h1.2;subst e1 e2;refine⟨_,_,fun _=>.tD (v:=.agg cs) ?_,h2⟩;simp only[rV,l1,Nat.zero_add,List.drop_zero,List.take_length];rw[Nat.ble_eq_true_of_le (Nat.le_refl _)];rfl
    ·obtain⟨v,h3,h4⟩:=sX h2;exact⟨v,h,fun _=>.tD h3,h4⟩
   ·obtain⟨v,h3,h4⟩:=sX hw;exact⟨v,h,fun _=>.tD h3,h4⟩
  ·obtain⟨v,h3,h4⟩:=sX hw;exact⟨v,h,fun _=>.tD h3,h4⟩
 |e o=>
  simp only[so] at hw;split at hw
  ·obtain⟨v,h1,h2,h3⟩:=hw;exact⟨v,h1,fun _=>.Lz h2,h3⟩
  split at hw
  ·rename_i n;split at hw
   ·rename_i b o v;rcases iK hw with⟨h1,h2⟩|⟨_,h2⟩
    ·obtain⟨g1,h3,h4⟩:=AB h2;refine⟨_,_,fun _=>.Lz (v:=.undef) (h1:=g1) ?_,h4⟩;show eI (.store n) [.ptr b o,v] h=_;simp only[eI,h1,cond_true,h3,Option.map_some]
    ·exact h2.elim
   ·exact hw.elim
  ·obtain⟨v,h1,h2,h3⟩:=hw;exact⟨v,h1,fun _=>.Lz h2,h3⟩
 |call=>
  simp only[so] at hw;split at hw
  ·obtain⟨v,h1,hb,hk⟩:=hw;exact⟨v,h1,fun B=>.mj (.cO (hb B)),hk⟩
  ·obtain⟨v,h1,hb,hk⟩:=hw;exact⟨v,h1,fun B=>.mj (hb B),hk⟩
  ·exact hw.elim
 |invoke name=>
  simp only[so] at hw;split at hw
  ·split at hw
   ·rename_i f hf;obtain⟨v,h1,hb,hk⟩:=hw;exact⟨v,h1,fun B=>.kF hf (hb B),hk⟩
   ·exact hw.elim
  ·exact hw.elim
 |panic=>exact hw.elim
 |bad=>exact hw.elim
theorem qL:∀{l:List bu} {e:Env} {h:Heap} {k:Env→Heap→Prop},PX fs ms z l e h k→VO fs ms B rd l e h k
 |[],e,h,k,hw=>⟨_,_,_,.nil,hw⟩
 |i::l,e,h,k,hw=>by
  have fI:cZ i e=some true→(zW e i.args fun vals=>so fs ms z i.op vals h fun v h1=>jA e i.dst v fun e1=>PX fs ms z l e1 h1 k)→VO fs ms B rd (i::l) e h k:=by
   intro qR hw;obtain⟨ha,hw⟩:=rL hw;obtain⟨v,h1,hb,hk⟩:=xq (rd:=rd) hw;rw[ki] at hk;obtain⟨tr,e',h',hl,hk⟩:=qL hk;exact⟨_,_,_,.on qR ha (hb B) hl,hk⟩
  have hoff:cZ i e=some false→(jA e i.dst .undef fun e1=>PX fs ms z l e1 h k)→VO fs ms B rd (i::l) e h k:=by
   intro qR hk;rw[ki] at hk;obtain⟨tr,e',h',hl,hk⟩:=qL hk;exact⟨_,_,_,.off qR hl,hk⟩
  replace hw:SE fs ms z i (PX fs ms z l) e h k:=hw;unfold SE at hw;split at hw
  ·rename_i hg;exact fI (by simp[cZ,hg]) hw
  ·rename_i d want hg;split at hw
   ·rename_i b hb;split at hw
    ·rcases iK hw with⟨rfl,h2⟩|⟨rfl,h2⟩
     ·exact fI (by simp[cZ,hg,hb]) h2
     ·exact hoff (by simp[cZ,hg,hb]) h2
    ·rcases iK hw with⟨rfl,h2⟩|⟨rfl,h2⟩
     ·exact hoff (by simp[cZ,hg,hb]) h2
     ·exact fI (by simp[cZ,hg,hb]) h2
   ·rename_i v hne hv;refine hoff ?_ hw;cases v with
    |bool b=>exact absurd rfl (hne b)
    |_=>simp only[cZ,hg,hv]
   ·exact hw.elim
theorem uw:∀{l:List bu} {e:Env} {h:Heap} {k:List aJ→Env→Heap→Prop},Ty fs ms z l e h k→∃tr e' h',VS fs ms B (.ops rd l e h) (.ops tr e' h')∧k tr e' h'
 |[],e,h,k,hw=>⟨_,_,_,.nil,hw⟩
 |i::l,e,h,k,hw=>by
  have fI:cZ i e=some true→(zW e i.args fun vals=>so fs ms z i.op vals h fun v h1=>jA e i.dst v fun e1=>Ty fs ms z l e1 h1 fun tr=>k (⟨h,vals,v,true⟩::tr))→∃tr e' h',VS fs ms B (.ops rd (i::l) e h) (.ops tr e' h')∧k tr e' h':=by
   intro qR hw;obtain⟨ha,hw⟩:=rL hw;obtain⟨v,h1,hb,hk⟩:=xq (rd:=rd) hw;rw[ki] at hk;obtain⟨tr,e',h',hl,hk⟩:=uw hk;exact⟨_,_,_,.on qR ha (hb B) hl,hk⟩
  have hoff:cZ i e=some false→(jA e i.dst .undef fun e1=>Ty fs ms z l e1 h fun tr=>k (⟨h,i.args.map e.ev,.undef,false⟩::tr))→∃tr e' h',VS fs ms B (.ops rd (i::l) e h) (.ops tr e' h')∧k tr e' h':=by
   intro qR hk;rw[ki] at hk;obtain⟨tr,e',h',hl,hk⟩:=uw hk;exact⟨_,_,_,.off qR hl,hk⟩
  replace hw:SF fs ms z i (Ty fs ms z l) e h k:=hw;unfold SF at hw;split at hw
  ·rename_i hg;exact fI (by simp[cZ,hg]) hw
  ·rename_i d want hg;split at hw
   ·rename_i b hb;split at hw
    ·rcases iK hw with⟨rfl,h2⟩|⟨rfl,h2⟩
     ·exact fI (by simp[cZ,hg,hb]) h2
     ·exact hoff (by simp[cZ,hg,hb]) h2
    ·rcases iK hw with⟨rfl,h2⟩|⟨rfl,h2⟩
     ·exact hoff (by simp[cZ,hg,hb]) h2
     ·exact fI (by simp[cZ,hg,hb]) h2
   ·rename_i v hne hv;refine hoff ?_ hw;cases v with
    |bool b=>exact absurd rfl (hne b)
    |_=>simp only[cZ,hg,hv]
   ·exact hw.elim
theorem aA:∀{c:AC} {e:Env} {h:Heap} {k:AX→Env→Heap→Prop},AF fs ms B rd z c e h k→VC fs ms B rd c e h k
 |.skip,e,h,k,hw=>⟨_,_,_,.skip,hw⟩
 |.ops l,e,h,k,hw=>by
  obtain⟨tr,e',h',hb,hk⟩:=qL (B:=B) (rd:=rd) (show PX fs ms z l e h _ from hw);exact⟨_,_,_,.ops hb,hk⟩
 |.cB l win,e,h,k,hw=>by
  replace hw:match win.all (·.isEmpty) with
   |true=>PX fs ms z l e h fun e h=>k .normal e h
   |false=>Ty fs ms z l e h fun tr e1 h1=>zk l win tr h1∧k .normal e1 h1:=hw
  split at hw
  ·rename_i xR;obtain⟨tr,e',h',hb,hk⟩:=qL (B:=B) (rd:=rd) hw;exact⟨_,_,_,.cB xR hb,hk⟩
  ·obtain⟨tr,e',h',hb,hk⟩:=uw (B:=B) (rd:=rd) hw;exact⟨_,_,_,.Pa hk.1 hb,hk.2⟩
 |.seq a b,e,h,k,hw=>by
  obtain⟨x,e1,h1,hb,hk⟩:=aA (show AF fs ms B rd z a e h _ from hw);cases x with
  |normal=>
   obtain⟨x2,e2,h2,iG,hk2⟩:=aA (show AF fs ms B rd z b e1 h1 k from hk);exact⟨_,_,_,.xZ hb iG,hk2⟩
  |exit i=>exact⟨_,_,_,.oS hb rfl,hk⟩
  |ret=>exact⟨_,_,_,.oS hb rfl,hk⟩
  |panic v=>exact⟨_,_,_,.oS hb rfl,hk⟩
 |.cond c a b,e,h,k,hw=>by
  obtain⟨ha,hw⟩:=tR (show SY e c _ from hw);split at hw
  ·rename_i t ht;rcases iK hw with⟨rfl,h2⟩|⟨rfl,h2⟩
   ·obtain⟨x,e1,h1,hb,hk⟩:=aA h2;exact⟨_,_,_,.cond ha ht hb,hk⟩
   ·obtain⟨x,e1,h1,hb,hk⟩:=aA h2;exact⟨_,_,_,.cond ha ht hb,hk⟩
  ·exact hw.elim
 |.block id c,e,h,k,hw=>by
  obtain⟨x,e1,h1,hb,hk⟩:=aA (show AF fs ms B rd z c e h _ from hw);cases x with
  |exit i=>
   simp only at hk;split at hk
   ·rename_i Pq;have:=Nat.eq_of_beq_eq_true Pq;subst this;exact⟨_,_,_,.nT hb,hk⟩
   ·rename_i Pq;refine⟨_,_,_,.fJ hb ?_,hk⟩;intro j hj hji;simp only[AX.exit.injEq] at hj;subst hj hji;simp at Pq
  |normal=>exact⟨_,_,_,.fJ hb (by simp),hk⟩
  |ret=>exact⟨_,_,_,.fJ hb (by simp),hk⟩
  |panic v=>exact⟨_,_,_,.fJ hb (by simp),hk⟩
 |.loop c,e,h,k,hw=>hw
 |.rangeFunc f ps a b,e,h,k,hw=>hw
 |.exit id,e,h,k,hw=>⟨_,_,_,.exit,hw⟩
 |.ret,e,h,k,hw=>⟨_,_,_,.ret,hw⟩
 |.bad,e,h,k,hw=>hw.elim
def uT(rs:List rB)(Q:AV→Heap→Prop):AX→Env→Heap→Prop:=fun x e h=>match x with
 |.normal|.ret=>@Option.rec (List AV) (fun _=>Prop) False (fun vs=>match vs with
   |[v]=>Q v h
   |vs=>Q (.cD vs) h) (eH e h rs)
 |_=>False
theorem FJ{f:Nat}{af:aq}{args:List AV}{h:Heap}{Q:AV→Heap→Prop}(hf:fs f=some af)(hlen:args.length≤af.ntmps)
  (hw:VC fs ms h.next false af.body (Env.start af.ntmps args) h (uT af.results Q)):VD fs ms f args h Q:=by
 obtain⟨x,e1,h1,hb,hk⟩:=hw;have hx:x=.normal∨x=.ret:=by
  cases x with
  |normal=>exact .inl rfl
  |ret=>exact .inr rfl
  |exit i=>exact hk.elim
  |panic v=>exact hk.elim
 have hk':∃vs,eH e1 h1 af.results=some vs∧Q (cX vs) h1:=by
  rcases hx with rfl|rfl<;>
  ·simp only[uT] at hk;cases hvs:eH e1 h1 af.results with
   |some vs=>
    rw[hvs] at hk;refine⟨vs,rfl,?_⟩;rcases vs with _|⟨v,_|⟨u,r⟩⟩<;>exact hk
   |none=>
    rw[hvs] at hk;exact hk.elim
 obtain⟨vs,h2,h3⟩:=hk';exact⟨_,_,fun B=>.call hf hlen hb hx h2,h3⟩
theorem ak{f:Nat}{af:aq}{args:List AV}{h:Heap}{Q:AV→Heap→Prop}(z:Bool)(hf:fs f=some af)(hlen:args.length≤af.ntmps)
  (hw:p8 af.ntmps args fun e=>AF fs ms h.next false z af.body e h (uT af.results Q)):VD fs ms f args h Q:=by
 rw[nH] at hw;exact FJ hf hlen (aA hw)
theorem VD.mono{f:Nat}{args:List AV}{h:Heap}{Q Q':AV→Heap→Prop}(hc:VD fs ms f args h Q)(hq:∀v h',Q v h'→Q' v h'):VD fs ms f args h Q':=by
 obtain⟨v,h',hb,hk⟩:=hc;exact⟨v,h',hb,hq v h' hk⟩
theorem VC.mono{c:AC}{e:Env}{h:Heap}{Q Q':AX→Env→Heap→Prop}(hc:VC fs ms B rd c e h Q)(hq:∀x e' h',Q x e' h'→Q' x e' h'):VC fs ms B rd c e h Q':=by
 obtain⟨x,e',h',hb,hk⟩:=hc;exact⟨x,e',h',hb,hq x e' h' hk⟩
theorem dm{c:AC}{e:Env}{h:Heap}{Q:AX→Env→Heap→Prop}
  (hw:AF fs ms B rd z c e h fun x e1 h1=>match x with|.normal=>VC fs ms B rd (.loop c) e1 h1 Q|x=>Q x e1 h1):VC fs ms B rd (.loop c) e h Q:=by
 obtain⟨x,e1,h1,hb,hk⟩:=aA hw;cases x with
 |normal=>
  obtain⟨x2,e2,h2,iG,hk2⟩:=hk;exact⟨_,_,_,.mg hb iG,hk2⟩
 |exit i=>exact⟨_,_,_,.cU hb rfl,hk⟩
 |ret=>exact⟨_,_,_,.cU hb rfl,hk⟩
 |panic v=>exact⟨_,_,_,.cU hb rfl,hk⟩
theorem Cs{c:AC}{e e':Env}{h h':Heap}{Q:AX→Env→Heap→Prop}{p:Nat→Nat}(hg:GC B p e h e' h')(hw:VC fs ms B rd c e' h' Q):VC fs ms B rd c e h Q:=by
 obtain⟨x,e1,h1,hb,hk⟩:=hw;exact⟨x,e1,h1,.gc hg hb,hk⟩
theorem sj{c:AC}{e:Env}{h:Heap}{Q:AX→Env→Heap→Prop}{i:Nat}{v v':AV}(bs:List Nat)(hi:Tr.get e i=some v)(hf:kY (· ∈bs) h v v')
  (hw:VC fs ms B rd c (Tr.set e i v') (dQ bs h) Q):VC fs ms B rd c e h Q:=by
 obtain⟨x,e1,h1,hb,hk⟩:=hw;exact⟨x,e1,h1,.Xb hi hf hb,hk⟩
def PC(fs:Nat→Option aq)(ms:Nat→String→Option Nat)(f:Nat)(args:List AV)(v:AV):Prop:=
 cw args=true∧v.cl=true∧VD fs ms f args ⟨0,.nil⟩ fun u g=>kY (fun _=>True) g u v
theorem cG{f:Nat}{args:List AV}{v:AV}(h1:cw args=true)(h2:v.cl=true)(h3:VD fs ms f args ⟨0,.nil⟩ fun u _=>u=v):PC fs ms f args v:=
 ⟨h1,h2,h3.mono fun u g hu=>hu▸.clean (hu▸h2)⟩
theorem VI:∀{v:AV},v.pl=true→v.cl=true:=by
 intro v;refine AV.rec (motive_1:=fun v=>v.pl=true→v.cl=true) (motive_2:=fun l=>lA l=true→cw l=true) ?_ ?_ ?_ ?_ ?_ ?_ ?_ ?_ ?_ ?_ ?_ ?_ ?_ ?_ ?_ ?_ ?_ ?_ ?_ ?_ ?_ ?_ v
 case refine_11=>
  intro fn first aF ih1 ih2 hp
  simp only[AV.pl,Bool.and_eq_true] at hp;simp only[AV.cl,Bool.and_eq_true];exact⟨⟨ih1 hp.1.1,ih2 hp.1.2⟩,hp.2⟩
 case refine_14=>intro t v ih hp;simp only[AV.cl];exact ih (by simpa[AV.pl] using hp)
 case refine_16=>intro cs ih hp;simp only[AV.cl];exact ih (by simpa[AV.pl] using hp)
 case refine_17=>intro cs ih hp;simp only[AV.cl];exact ih (by simpa[AV.pl] using hp)
 case refine_20=>intro b o k hp;simp[AV.pl] at hp
 case refine_21=>intro _;rfl
 case refine_22=>intro x l ih1 ih2 hp;simp only[lA,Bool.and_eq_true] at hp;simp only[cw,ih1 hp.1,ih2 hp.2];rfl
 all_goals (intros;simp_all[AV.pl,AV.cl])
theorem Oo:∀{l:List AV},lA l=true→cw l=true
 |[],_=>rfl
 |x::l,hp=>by simp only[lA,Bool.and_eq_true] at hp;simp only[cw,VI hp.1,Oo hp.2];rfl
theorem VH{f n:Nat}(he:TX fs ms Kq n (.call f [] ⟨0,.nil⟩) isTrue=true):PC fs ms f [] (.bool true):=by
 obtain⟨h1,hb⟩:=Np Kr (IV he);exact⟨rfl,rfl,.bool true,⟨0,.nil⟩,fun B=>.closed hb rfl rfl,.clean rfl⟩
theorem aO{f:Nat}{args:List AV}{h:Heap}{v:AV}{Q:AV→Heap→Prop}(hp:PC fs ms f args v)(hq:Q v h):VD fs ms f args h Q:=by
 obtain⟨h1,h2,u,g,hb,hf⟩:=hp;exact⟨v,h,fun B=>.pure (hb B) h1 hf h2,hq⟩
theorem Lc{f:Nat}{args args':List AV}{h:Heap}{Q:AV→Heap→Prop}(bs:List Nat)(hf:nP (· ∈bs) h args args')(hw:VD fs ms f args' (dQ bs h) Q):VD fs ms f args h Q:=by
 obtain⟨v,h1,hb,hk⟩:=hw;exact⟨v,h1,fun B=>.T9 hf (hb B),hk⟩
theorem XI{f:Nat}{args:List AV}{h:Heap}{Q:AV→Heap→Prop}(hw:VD fs ms f args h fun v h1=>∃bs v',kY (· ∈bs) h1 v v'∧Q v' (dQ bs h1)):VD fs ms f args h Q:=by
 obtain⟨v,h1,hb,bs,v',hf,hq⟩:=hw;exact⟨v',_,fun B=>.Ua (hb B) hf,hq⟩
theorem I4{P:Nat→Prop}{g:Heap}{v v':AV}(f:kY P g v v'):v'.pl=true→v=v':=by
 induction f with
 |clean _=>intro _;rfl
 |agg h1 _ ih=>
  intro hp;simp only[AV.pl] at hp;rename_i cs cs' _
  congr 1
  refine List.ext_getElem? fun i=>?_;cases hx:cs'[i]? with
  |none=>rw[List.getElem?_eq_none (by rw[h1];exact List.getElem?_eq_none_iff.1 hx)]
  |some x=>
   have hl:=(List.getElem?_eq_some_iff.1 hx).1;have hy:=List.getElem?_eq_getElem (l:=cs) (i:=i) (by rw[h1];exact hl);rw[hy,ih i _ x hy hx (iU hp hx)]
 |cD h1 _ ih=>
  intro hp;simp only[AV.pl] at hp;rename_i cs cs' _
  congr 1
  refine List.ext_getElem? fun i=>?_;cases hx:cs'[i]? with
  |none=>rw[List.getElem?_eq_none (by rw[h1];exact List.getElem?_eq_none_iff.1 hx)]
  |some x=>
   have hl:=(List.getElem?_eq_some_iff.1 hx).1;have hy:=List.getElem?_eq_getElem (l:=cs) (i:=i) (by rw[h1];exact hl);rw[hy,ih i _ x hy hx (iU hp hx)]
 |iface _ ih=>intro hp;rw[ih (by simpa[AV.pl] using hp)]
 |aH=>intro hp;simp[AV.pl] at hp
 |sl=>intro hp;simp[AV.pl] at hp
 |ptr=>intro hp;simp[AV.pl] at hp
 |func h1 _ h2 _ ih1 ih2=>
  intro hp;simp only[AV.pl,Bool.and_eq_true] at hp;rename_i fn a a' c c' _ _
  congr 1
  ·refine List.ext_getElem? fun i=>?_;cases hx:a'[i]? with
   |none=>rw[List.getElem?_eq_none (by rw[h1];exact List.getElem?_eq_none_iff.1 hx)]
   |some x=>
    have hl:=(List.getElem?_eq_some_iff.1 hx).1;have hy:=List.getElem?_eq_getElem (l:=a) (i:=i) (by rw[h1];exact hl);rw[hy,ih1 i _ x hy hx (iU hp.1.1 hx)]
  ·refine List.ext_getElem? fun i=>?_;cases hx:c'[i]? with
   |none=>rw[List.getElem?_eq_none (by rw[h2];exact List.getElem?_eq_none_iff.1 hx)]
   |some x=>
    have hl:=(List.getElem?_eq_some_iff.1 hx).1;have hy:=List.getElem?_eq_getElem (l:=c) (i:=i) (by rw[h2];exact hl);rw[hy,ih2 i _ x hy hx (iU hp.1.2 hx)]
theorem jM{f:Nat}{args args':List AV}{h:Heap}{v:AV}{Q:AV→Heap→Prop}(hp:PC fs ms f args' v)(kO:v.pl=true)(hf:nP (fun _=>True) h args args')(hq:Q v h):VD fs ms f args h Q:=by
 obtain⟨h1,h2,u,g,hb,hu⟩:=hp;have:=I4 hu kO;subst this;exact⟨_,h,fun B=>.view hf h1 (hb B) kO,hq⟩
def CG(s:Nat)(l:List AV)(v:AV)(g:Heap):Prop:=(l=[]∧v=.aH)∨∃b,v=.sl b 0 l.length l.length true∧g.get b=some (.cells (aa l) true s)
theorem xp{f s:Nat}{args args':List AV}{h:Heap}{l:List AV}{Q:AV→Heap→Prop}(kV:cw args'=true)(kO:lA (aa l)=true)(hd:VD fs ms f args' ⟨0,.nil⟩ (CG s l))(hf:nP (fun _=>True) h args args')
  (h0:l=[]→Q .aH h)(h1:Q (.sl h.next 0 l.length l.length true) (h.new (.cells (aa l) true s))):VD fs ms f args h Q:=by
 obtain⟨v,g,hb,hk⟩:=hd;rcases hk with⟨hl,hv⟩|⟨b,hv,hg⟩
 ·subst hv;exact⟨_,h,fun B=>.view hf kV (hb B) rfl,h0 hl⟩
 ·subst hv;exact⟨_,_,fun B=>.PW hf kV (hb B) hg kO,h1⟩
theorem nP.nil{P:Nat→Prop}{g:Heap}:nP P g [] []:=⟨rfl,fun i x y hx=>by simp at hx⟩
theorem nP.cons{P:Nat→Prop}{g:Heap}{x y:AV}{l m:List AV}(h1:kY P g x y)(h2:nP P g l m):nP P g (x::l) (y::m):=by
 refine⟨by simp[h2.1],fun i a b ha hb=>?_⟩;cases i with
 |zero=>simp at ha hb;subst ha hb;exact h1
 |succ i=>exact h2.2 i a b (by simpa using ha) (by simpa using hb)
theorem nP.clean{P:Nat→Prop}{g:Heap}{l:List AV}(h:cw l=true):nP P g l l:=
 ⟨rfl,fun i x y hx hy=>by rw[hx] at hy;cases hy;exact .clean (fM h hx)⟩
theorem kY.ab9{P:Nat→Prop}{g:Heap}{l m:List AV}(h:nP P g l m):kY P g (.agg l) (.agg m):=.agg h.1 h.2
theorem kY.acr{P:Nat→Prop}{g:Heap}{l m:List AV}(h:nP P g l m):kY P g (.cD l) (.cD m):=.cD h.1 h.2
theorem kY.func'{P:Nat→Prop}{g:Heap}{fn:Fn}{a a' c c':List AV}(h:nP P g a a')(h':nP P g c c'):kY P g (.func fn a c) (.func fn a' c'):=.func h.1 h.2 h'.1 h'.2
theorem kY.ptr'{P:Nat→Prop}{g:Heap}{b o:Nat}{vs cs:List AV}{wr:Bool}{es:Nat}(hb:P b)(hg:g.get b=some (.cells vs wr es))(h:nP P g vs cs):kY P g (.ptr b o) (.fp cs o):=
 .ptr (base:=0) hb hg (by simp) (by rw[h.1];simp) fun j c y hc hy=>by rw[Nat.zero_add] at hy;exact h.2 j y c hy hc
theorem kY.row{P:Nat→Prop}{g:Heap}{b len cap k s:Nat}{op:Bool}{l vs:List AV}{wr:Bool}{es:Nat}(hb:P b)(hg:g.get b=some (.cells vs wr es))(hv:vs=aa l)(hs:aR s l=true)
  (hlen:len=l.length)(hcap:len≤cap)(hk:k≤2)(h1:1≤k→op=false)(h2:2≤k→cap=len)(kV:cw l=true):kY P g (.sl b 0 len cap op) (.fz k l):=by
 subst hv;have hf:=kA hs;refine .sl hb hg hs hlen (by rw[hf.1];simp) hcap hk h1 h2 ?_;intro i x j c y hx hc hy;rw[Nat.zero_add] at hy;obtain⟨i',x',j',a1,a2,a3⟩:=hf.2 _ _ hy;have e1:=dc hs hx;have e2:=dc hs a1;have l1:=(List.getElem?_eq_some_iff.1 hc).1;have l2:=(List.getElem?_eq_some_iff.1 a2).1;have hsp:0<s:=by omega
 have hi:i=i':=by
  have q1:(i*s+j)/s=i:=by rw[Nat.mul_comm,Nat.mul_add_div hsp,Nat.div_eq_of_lt (by omega)];omega
  have q2:(i'*s+j')/s=i':=by rw[Nat.mul_comm,Nat.mul_add_div hsp,Nat.div_eq_of_lt (by omega)];omega
  rw[←q1,a3,q2]
 subst hi;have hj:j=j':=by omega
 subst hj;rw[hx] at a1;cases a1
 rw[hc] at a2;cases a2
 exact .clean (fM (nk (fM kV hx)) hc)
def ek(d:Nat)(l:List (Nat×AV)):Env:=sk d (kn l fun _=>none)
def hk(n:Nat)(l:List (Nat×ck)):Heap:=⟨n,l.foldr (fun p t=>Tr.set t p.1 p.2) .nil⟩
theorem p5:∀(d:Nat) (g:Nat→Option AV) (i:Nat) (v:AV),Tr.get (sk d g) i=some v→g i=some v
 |0,g,i,v,h=>by simp[sk,Tr.get] at h
 |d+1,g,i,v,h=>by
  rcases Nat.eq_zero_or_pos i with rfl|hi
  ·simpa[sk,Tr.get] using h
  ·rcases Nat.mod_two_eq_zero_or_one i with h2|h2
   ·rw[sk,Tr.fm _ _ h2 (by omega)] at h;have:=p5 d _ _ v h;rw[←this]
    congr 1
    omega
   ·rw[sk,Tr.iy _ _ h2] at h;have:=p5 d _ _ v h;rw[←this]
    congr 1
    omega
def jh(p:Nat→Nat)(n:Nat)(e:Env):List (Nat×AV)→Prop
 |[]=>True
 |(i,v)::l=>(∃u,Tr.get e i=some u∧rC p n v u)∧jh p n e l
theorem nE{p:Nat→Nat}{n:Nat}{e:Env}:∀{l:List (Nat×AV)},jh p n e l→∀{i:Nat} {v:AV},kn l (fun _=>none) i=some v→∃u,Tr.get e i=some u∧rC p n v u
 |[],_,i,v,hv=>by simp[kn] at hv
 |(j,w)::l,h,i,v,hv=>by
  simp only[kn] at hv;cases hb:Nat.beq i j with
  |false=>rw[hb] at hv;exact nE h.2 hv
  |true=>
   have:=Nat.eq_of_beq_eq_true hb;subst this;rw[hb] at hv;simp only[cond_true,Option.some.injEq] at hv;subst hv;exact h.1
def yb(p:Nat→Nat)(n:Nat)(h:Heap):List (Nat×ck)→Prop
 |[]=>True
 |(b,x)::l=>b<n∧(∃y,h.get (p b)=some y∧kM p n x y)∧yb p n h l
theorem we{n:Nat}:∀{l:List (Nat×ck)} {b:Nat} {x:ck},(hk n l).get b=some x→(b,x)∈l
 |[],b,x,h=>by simp[hk,Heap.get,Tr.get] at h
 |(c,y)::l,b,x,h=>by
  have:(Tr.set (l.foldr (fun p t=>Tr.set t p.1 p.2) .nil) c y).get b=some x:=h;rw[Tr.bx] at this;split at this
  ·rename_i he;cases this;subst he;exact List.mem_cons_self
  ·exact List.mem_cons_of_mem _ (we (n:=n) this)
theorem tL{p:Nat→Nat}{n:Nat}{h:Heap}:∀{l:List (Nat×ck)},yb p n h l→∀{b:Nat} {x:ck},(b,x)∈l→b<n∧∃y,h.get (p b)=some y∧kM p n x y
 |[],_,b,x,hm=>by simp at hm
 |(c,y)::l,hl,b,x,hm=>by
  rcases List.mem_cons.1 hm with he|hm
  ·cases he;exact⟨hl.1,hl.2.1⟩
  ·exact tL hl.2.2 hm
theorem PV{c:AC}{e:Env}{h:Heap}{Q:AX→Env→Heap→Prop}(d:Nat)(l:List (Nat×AV))(n:Nat)(m:List (Nat×ck))(p:Nat→Nat)(hl:jh p n e l)(hm:yb p n h m)
  (hp:∀b c,b∈m.map (·.1)→c∈m.map (·.1)→p b=p c→b=c)(ua:∀b,b<B→p b=b)(hn:B≤n)
  (hw:VC fs ms B rd c (ek d l) (hk n m) Q):VC fs ms B rd c e h Q:=by
 refine Cs (p:=p) ⟨?_,?_,?_,ua,hn⟩ hw
 ·intro i v hv;exact nE hl (p5 d _ i v hv)
 ·intro b x hx;exact tL hm (we hx)
 ·intro b c hb hc he;have mem:∀b,(hk n m).get b≠none→b∈m.map (·.1):=by
   intro b hb;cases hx:(hk n m).get b with
   |none=>exact absurd hx hb
   |some x=>exact List.mem_map.2 ⟨(b,x),we hx,rfl⟩
  exact hp b c (mem b hb) (mem c hc) he
theorem iZ{c:AC}{e:Env}{h:Heap}{Q:AX→Env→Heap→Prop}(d:Nat)(l:List (Nat×AV))(hl:jh id 0 e l)
  (hw:VC fs ms 0 rd c (ek d l) (hk 0 []) Q):VC fs ms 0 rd c e h Q:=
 PV d l 0 [] id hl trivial (fun b c hb=>by simp at hb) (fun b hb=>rfl) (Nat.le_refl _) hw
theorem AQ{e:Env}:∀{l:List (Nat×AV)},bZ e l→∀{i:Nat} {v:AV},kn l (fun _=>none) i=some v→Tr.get e i=some v
 |[],_,i,v,hv=>by simp[kn] at hv
 |(j,w)::l,h,i,v,hv=>by
  simp only[kn] at hv;cases hb:Nat.beq i j with
  |false=>rw[hb] at hv;exact AQ h.2 hv
  |true=>
   have:=Nat.eq_of_beq_eq_true hb;subst this;rw[hb] at hv;simp only[cond_true,Option.some.injEq] at hv;subst hv;exact h.1
theorem aE{c:AC}{e:Env}{h:Heap}{Q:AX→Env→Heap→Prop}(d:Nat)(l:List (Nat×AV))(hl:bZ e l)(hw:VC fs ms B rd c (ek d l) h Q):VC fs ms B rd c e h Q:=by
 obtain⟨x,e1,h1,hb,hk⟩:=hw;exact⟨x,e1,h1,.drop (fun i v hv=>AQ hl (p5 d _ i v hv)) hb,hk⟩
theorem bl{p:Nat→Nat}{n:Nat}{e:Env}{i:Nat}{v:AV}{l:List (Nat×AV)}(h:Tr.get e i=some v)(hc:v.cl=true)(hl:jh p n e l):jh p n e ((i,v)::l):=⟨⟨v,h,.cl hc⟩,hl⟩
end
end Ads
end Go.Proofs.YtnlcabhfkpafmaaGreat
