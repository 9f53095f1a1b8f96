/-
  What code must come to in Vs, as a proposition that is worked out from the code.
-/
import Derived.Test.YtenafeojcgmnhaaVsSim
import Derived.Test.YtenafeojcgmnhaaAdsEvalX
set_option linter.unusedSimpArgs false
set_option linter.unusedVariables false
namespace Go.Proofs.Ytenafeojcgmnhaa
namespace Ads
abbrev jC{α:Type}(o:Option α)(k:α→Prop):Prop:=@Option.rec α (fun _=>Prop) False k o
theorem cM{α:Type}{o:Option α}{k:α→Prop}{v:α}(h:o=some v)(hk:k v):@Option.rec α (fun _=>Prop) False k o:=by rw[h];exact hk
section
variable (fs:Nat→Option aC) (ms:Nat→String→Option Nat) (B:Nat) (rd:Bool) (z:Bool)
def VC(c:AC)(e:Env)(h:Heap)(Q:AX→Env→Heap→Prop):Prop:=∃x e' h',VS fs ms B (.code rd c e h) (.code x e' h')∧Q x e' h'
def VO(l:List bq)(e:Env)(h:Heap)(Q:Env→Heap→Prop):Prop:=∃tr e' h',VS fs ms B (.ops rd l e h) (.ops tr e' h')∧Q e' h'
def VD(f:Nat)(args:List AV)(h:Heap)(Q:AV→Heap→Prop):Prop:=∃v h',(∀B,VS fs ms B (.call f args h) (.val v h'))∧Q v h'
def LX(e:Env)(r:bG)(k:AV→Prop):Prop:=match r with
 |.t i=>match Tr.get e i with
  |some v=>k v
  |none=>False
 |.c v=>k v
def yM(e:Env)(l:List bG):(List AV→Prop)→Prop:=
 List.rec (motive:=fun _=>(List AV→Prop)→Prop) (fun k=>k []) (fun r _ ih k=>LX e r fun v=>ih fun vs=>k (v::vs)) l
def Ka(h:Heap)(x:cw)(k:Nat→Heap→Prop):Prop:=match z with
 |true=>k h.next (h.new x)
 |false=>match h with
  |⟨n,m⟩=>BC m n x fun t=>k n ⟨n+1,t⟩
def NF(h:Heap)(b:Nat)(x:cw)(k:Heap→Prop):Prop:=match z with
 |true=>k (h.set b x)
 |false=>match h with
  |⟨n,m⟩=>BC m b x fun t=>k ⟨n,t⟩
def Da(h:Heap)(b o:Nat)(xs:List AV)(k:Heap→Prop):Prop:=match h.get b with
 |some (.cells vs true es)=>xu (Nat.ble (o+xs.length) vs.length&&bE xs) (NF z h b (.cells (Heap.splice vs o xs) true es) k) False
 |_=>False
def HA(n:Nat)(vals:List AV)(h:Heap)(k:AV→Prop):Prop:=match vals with
 |[.fp cs o]=>xu (Nat.beq o 0&&Nat.beq n cs.length) (k (.agg cs)) (jC (rV (.aO n) [.fp cs o] h) k)
 |vals=>jC (rV (.aO n) vals h) k
def Rs(o:pz)(vals:List AV):Bool:=
 match o with
 |.bin op=>match vals with
  |.str _::_=>match op with
   |.add=>false
   |_=>true
  |_=>match op with
   |.quo|.rem|.shl|.shr=>false
   |_=>true
 |.ak _|.bV _ _|.EP _ _ _|.za|.slice _ _ _ _|.lP _ _|.lO _ _ _ _ _=>false
 |_=>true
def q9(o:gw)(vals:List AV)(h:Heap)(k:AV→Heap→Prop):Prop:=
 match o with
 |.p o=>match o with
  |.pick=>match vals with
   |[.bool c,a,b]=>xu c (k a h) (k b h)
   |_=>False
  |o=>match Rs o vals with
   |true=>jC (pV o vals) fun v=>k v h
   |false=>∃v,pV o vals=some v∧k v h
 |.a o=>match o with
  |.pR zs n b=>∃x f,aI (.pR zs n b) vals=some (x,f)∧Ka z h x fun b h1=>k (f b) h1
  |o=>match St o vals with
   |some (x,f)=>Ka z h x fun b h1=>k (f b) h1
   |none=>False
 |.r o=>match z with
  |true=>∃v,rV o vals h=some v∧k v h
  |false=>match o with
   |.aO n=>HA n vals h fun v=>k v h
   |o=>jC (rV o vals h) fun v=>k v h
 |.e o=>match z with
  |true=>∃v h1,eV o vals h=some (v,h1)∧k v h1
  |false=>match o with
   |.store n=>match vals with
    |[.ptr b o,v]=>xu (Nat.beq v.cells.length n) (Da z h b o v.cells fun h1=>k .undef h1) False
    |_=>False
   |o=>∃v h1,eV o vals h=some (v,h1)∧k v h1
 |.call=>match vals with
  |.func (.func f) first aX::args=>VD fs ms f (first++(args++aX)) h k
  |fv::args=>∃v h1,(∀B,VS fs ms B (.cH fv args h) (.val v h1))∧k v h1
  |[]=>False
 |.invoke name=>match vals with
  |.iface t x::args=>match ms t name with
   |some f=>VD fs ms f (x::args) h k
   |none=>False
  |_=>False
 |_=>False
def NQ(i:bq)(ih:Env→Heap→(Env→Heap→Prop)→Prop)(e:Env)(h:Heap)(k:Env→Heap→Prop):Prop:=match i.guard with
  |none=>yM e i.args fun vals=>q9 fs ms z i.op vals h fun v h1=>jl e i.dst v fun e1=>ih e1 h1 k
  |some (d,want)=>match Tr.get e d with
   |some (.bool b)=>match want with
    |true=>xu b (yM e i.args fun vals=>q9 fs ms z i.op vals h fun v h1=>jl e i.dst v fun e1=>ih e1 h1 k) (jl e i.dst .undef fun e1=>ih e1 h k)
    |false=>xu b (jl e i.dst .undef fun e1=>ih e1 h k) (yM e i.args fun vals=>q9 fs ms z i.op vals h fun v h1=>jl e i.dst v fun e1=>ih e1 h1 k)
   |some _=>jl e i.dst .undef fun e1=>ih e1 h k
   |none=>False
def Lu(l:List bq):Env→Heap→(Env→Heap→Prop)→Prop:=
 List.rec (motive:=fun _=>Env→Heap→(Env→Heap→Prop)→Prop) (fun e h k=>k e h) (fun i _ ih=>NQ fs ms z i ih) l
def NR(i:bq)(ih:Env→Heap→(List aK→Env→Heap→Prop)→Prop)(e:Env)(h:Heap)(k:List aK→Env→Heap→Prop):Prop:=match i.guard with
  |none=>yM e i.args fun vals=>q9 fs ms z i.op vals h fun v h1=>jl e i.dst v fun e1=>ih e1 h1 fun tr=>k (⟨h,vals,v,true⟩::tr)
  |some (d,want)=>match Tr.get e d with
   |some (.bool b)=>match want with
    |true=>xu b (yM e i.args fun vals=>q9 fs ms z i.op vals h fun v h1=>jl e i.dst v fun e1=>ih e1 h1 fun tr=>k (⟨h,vals,v,true⟩::tr)) (jl e i.dst .undef fun e1=>ih e1 h fun tr=>k (⟨h,i.args.map e.ev,.undef,false⟩::tr))
    |false=>xu b (jl e i.dst .undef fun e1=>ih e1 h fun tr=>k (⟨h,i.args.map e.ev,.undef,false⟩::tr)) (yM e i.args fun vals=>q9 fs ms z i.op vals h fun v h1=>jl e i.dst v fun e1=>ih e1 h1 fun tr=>k (⟨h,vals,v,true⟩::tr))
   |some _=>jl e i.dst .undef fun e1=>ih e1 h fun tr=>k (⟨h,i.args.map e.ev,.undef,false⟩::tr)
   |none=>False
def Ox(l:List bq):Env→Heap→(List aK→Env→Heap→Prop)→Prop:=
 List.rec (motive:=fun _=>Env→Heap→(List aK→Env→Heap→Prop)→Prop) (fun e h k=>k [] e h) (fun i _ ih=>NR fs ms z i ih) l
def Df(c:AC):Env→Heap→(AX→Env→Heap→Prop)→Prop:=
 AC.rec (motive:=fun _=>Env→Heap→(AX→Env→Heap→Prop)→Prop)
  (fun e h k=>k .normal e h)
  (fun l e h k=>Lu fs ms z l e h fun e h=>k .normal e h)
  (fun l win e h k=>match win.all (·.isEmpty) with
   |true=>Lu fs ms z l e h fun e h=>k .normal e h
   |false=>Ox fs ms z l e h fun tr e1 h1=>yl l win tr h1∧k .normal e1 h1)
  (fun _ _ ia ib e h k=>ia e h fun x e1 h1=>match x with
   |.normal=>ib e1 h1 k
   |x=>k x e1 h1)
  (fun c _ _ ia ib e h k=>LX e c fun v=>match v with
   |.bool t=>xu t (ia e h k) (ib e h k)
   |_=>False)
  (fun id _ ic e h k=>ic e h fun x e1 h1=>match x with
   |.exit i=>match Nat.beq i id with
    |true=>k .normal e1 h1
    |false=>k (.exit i) e1 h1
   |x=>k x e1 h1)
  (fun c _ e h k=>VC fs ms B rd (.loop c) e h k)
  (fun f ps a b _ _ e h k=>VC fs ms B rd (.rangeFunc f ps a b) e h k)
  (fun id e h k=>k (.exit id) e h)
  (fun e h k=>k .ret e h)
  (fun _ _ _=>False) c
end
section
variable {fs:Nat→Option aC} {ms:Nat→String→Option Nat} {B:Nat} {rd:Bool} {z:Bool}
theorem sv{α:Type}{o:Option α}{k:α→Prop}(h:jC o k):∃v,o=some v∧k v:=by
 cases o with
 |none=>exact h.elim
 |some v=>exact⟨v,rfl,h⟩
theorem pJ{e:Env}{r:bG}{k:AV→Prop}(h:LX e r k):dQ e [r]=true∧k (e.ev r):=by
 cases r with
 |t i=>
  simp only[LX] at h;split at h
  ·rename_i v hv;exact⟨by simp[dQ,hv],by simp only[Env.ev,Cl hv];exact h⟩
  ·exact h.elim
 |c v=>exact⟨rfl,h⟩
theorem Ak{e:Env}{r:bG}{l:List bG}(h1:dQ e [r]=true)(h2:dQ e l=true):dQ e (r::l)=true:=by
 cases r with
 |t i=>simp only[dQ,Bool.and_true] at h1⊢;rw[h1,h2];rfl
 |c v=>exact h2
theorem qN{e:Env}:∀{l:List bG} {k:List AV→Prop},yM e l k→dQ e l=true∧k (l.map e.ev)
 |[],k,h=>⟨rfl,h⟩
 |r::l,k,h=>by
  obtain⟨h1,h2⟩:=pJ h;obtain⟨h3,h4⟩:=qN h2;exact⟨Ak h1 h3,h4⟩
theorem DW{h:Heap}{x:cw}{k:Nat→Heap→Prop}(hn:Ka z h x k):k h.next (h.new x):=by
 cases z with
 |true=>exact hn
 |false=>simp only[Ka,sJ] at hn;exact hn
theorem KF{h:Heap}{b:Nat}{x:cw}{k:Heap→Prop}(hn:NF z h b x k):k (h.set b x):=by
 cases z with
 |true=>exact hn
 |false=>simp only[NF,sJ] at hn;exact hn
theorem gX{t:Bool}{X Y:Prop}(h:xu t X Y):(t=true∧X)∨(t=false∧Y):=by
 cases t with
 |true=>exact .inl ⟨rfl,h⟩
 |false=>exact .inr ⟨rfl,h⟩
theorem zH{h:Heap}{b o:Nat}{xs:List AV}{k:Heap→Prop}(hs:Da z h b o xs k):∃h1,h.cW b o xs=some h1∧k h1:=by
 unfold Da at hs;split at hs
 ·rename_i vs es hg;rcases gX hs with⟨h1,h2⟩|⟨_,h2⟩
  ·refine⟨_,?_,KF h2⟩;simp only[Heap.cW,hg,h1,cond_true]
  ·exact h2.elim
 ·exact hs.elim
theorem wm{o:gw}{vals:List AV}{h:Heap}{k:AV→Heap→Prop}(hw:q9 fs ms z o vals h k):∃v h1,(∀B,VS fs ms B (.op rd o vals h) (.val v h1))∧k v h1:=by
 cases o with
 |p o=>
  simp only[q9] at hw;split at hw
  ·split at hw
   ·rename_i c a b;rcases gX hw with⟨rfl,h2⟩|⟨rfl,h2⟩
    ·exact⟨_,_,fun _=>.BV (v:=a) rfl,h2⟩
    ·exact⟨_,_,fun _=>.BV (v:=b) rfl,h2⟩
   ·exact hw.elim
  ·split at hw
   ·obtain⟨v,h1,h2⟩:=sv hw;exact⟨v,h,fun _=>.BV h1,h2⟩
   ·obtain⟨v,h1,h2⟩:=hw;exact⟨v,h,fun _=>.BV h1,h2⟩
 |a o=>
  simp only[q9] at hw;split at hw
  ·obtain⟨x,f,h1,h2⟩:=hw;exact⟨_,_,fun _=>.Kk h1,DW h2⟩
  ·split at hw
   ·rename_i x f hv;rw[BY] at hv;exact⟨_,_,fun _=>.Kk hv,DW hw⟩
   ·exact hw.elim
 |r o=>
  simp only[q9] at hw;split at hw
  ·obtain⟨v,h3,h4⟩:=hw;exact⟨v,h,fun _=>.D1 h3,h4⟩
  split at hw
  ·rename_i n;unfold HA at hw;split at hw
   ·rename_i cs o;rcases gX hw with⟨h1,h2⟩|⟨_,h2⟩
    ·simp only[Bool.and_eq_true] at h1;have e1:=Nat.eq_of_beq_eq_true h1.1;have e2:=Nat.eq_of_beq_eq_true h1.2;subst e1 e2;refine⟨_,_,fun _=>.D1 (v:=.agg cs) ?_,h2⟩;simp only[rV,l1,Nat.zero_add,List.drop_zero,List.take_length];rw[Nat.ble_eq_true_of_le (Nat.le_refl _)];rfl
    ·obtain⟨v,h3,h4⟩:=sv h2;exact⟨v,h,fun _=>.D1 h3,h4⟩
   ·obtain⟨v,h3,h4⟩:=sv hw;exact⟨v,h,fun _=>.D1 h3,h4⟩
  ·obtain⟨v,h3,h4⟩:=sv hw;exact⟨v,h,fun _=>.D1 h3,h4⟩
 |e o=>
  simp only[q9] at hw;split at hw
  ·obtain⟨v,h1,h2,h3⟩:=hw;exact⟨v,h1,fun _=>.IU h2,h3⟩
  split at hw
  ·rename_i n;split at hw
   ·rename_i b o v;rcases gX hw with⟨h1,h2⟩|⟨_,h2⟩
    ·obtain⟨g1,h3,h4⟩:=zH h2;refine⟨_,_,fun _=>.IU (v:=.undef) (h1:=g1) ?_,h4⟩;show eI (.store n) [.ptr b o,v] h=_;simp only[eI,h1,cond_true,h3,Option.map_some]
    ·exact h2.elim
   ·exact hw.elim
  ·obtain⟨v,h1,h2,h3⟩:=hw;exact⟨v,h1,fun _=>.IU h2,h3⟩
 |call=>
  simp only[q9] at hw;split at hw
  ·obtain⟨v,h1,hb,hk⟩:=hw;exact⟨v,h1,fun B=>.lJ (.cH (hb B)),hk⟩
  ·obtain⟨v,h1,hb,hk⟩:=hw;exact⟨v,h1,fun B=>.lJ (hb B),hk⟩
  ·exact hw.elim
 |invoke name=>
  simp only[q9] at hw;split at hw
  ·split at hw
   ·rename_i f hf;obtain⟨v,h1,hb,hk⟩:=hw;exact⟨v,h1,fun B=>.j7 hf (hb B),hk⟩
   ·exact hw.elim
  ·exact hw.elim
 |panic=>exact hw.elim
 |bad=>exact hw.elim
theorem b9:∀{l:List bq} {e:Env} {h:Heap} {k:Env→Heap→Prop},Lu fs ms z l e h k→VO fs ms B rd l e h k
 |[],e,h,k,hw=>⟨_,_,_,.nil,hw⟩
 |i::l,e,h,k,hw=>by
  have dY:cT i e=some true→(yM e i.args fun vals=>q9 fs ms z i.op vals h fun v h1=>jl e i.dst v fun e1=>Lu fs ms z l e1 h1 k)→VO fs ms B rd (i::l) e h k:=by
   intro mC hw;obtain⟨ha,hw⟩:=qN hw;obtain⟨v,h1,hb,hk⟩:=wm (rd:=rd) hw;rw[jT] at hk;obtain⟨tr,e',h',hl,hk⟩:=b9 hk;exact⟨_,_,_,.on mC ha (hb B) hl,hk⟩
  have hoff:cT i e=some false→(jl e i.dst .undef fun e1=>Lu fs ms z l e1 h k)→VO fs ms B rd (i::l) e h k:=by
   intro mC hk;rw[jT] at hk;obtain⟨tr,e',h',hl,hk⟩:=b9 hk;exact⟨_,_,_,.off mC hl,hk⟩
  replace hw:NQ fs ms z i (Lu fs ms z l) e h k:=hw;unfold NQ at hw;split at hw
  ·rename_i hg;exact dY (by simp[cT,hg]) hw
  ·rename_i d want hg;split at hw
   ·rename_i b hb;split at hw
    ·rcases gX hw with⟨rfl,h2⟩|⟨rfl,h2⟩
     ·exact dY (by simp[cT,hg,hb]) h2
     ·exact hoff (by simp[cT,hg,hb]) h2
    ·rcases gX hw with⟨rfl,h2⟩|⟨rfl,h2⟩
     ·exact hoff (by simp[cT,hg,hb]) h2
     ·exact dY (by simp[cT,hg,hb]) h2
   ·rename_i v hne hv;refine hoff ?_ hw;cases v with
    |bool b=>exact absurd rfl (hne b)
    |_=>simp only[cT,hg,hv]
   ·exact hw.elim
theorem tO:∀{l:List bq} {e:Env} {h:Heap} {k:List aK→Env→Heap→Prop},Ox fs ms z l e h k→∃tr e' h',VS fs ms B (.ops rd l e h) (.ops tr e' h')∧k tr e' h'
 |[],e,h,k,hw=>⟨_,_,_,.nil,hw⟩
 |i::l,e,h,k,hw=>by
  have dY:cT i e=some true→(yM e i.args fun vals=>q9 fs ms z i.op vals h fun v h1=>jl e i.dst v fun e1=>Ox fs ms z l e1 h1 fun tr=>k (⟨h,vals,v,true⟩::tr))→∃tr e' h',VS fs ms B (.ops rd (i::l) e h) (.ops tr e' h')∧k tr e' h':=by
   intro mC hw;obtain⟨ha,hw⟩:=qN hw;obtain⟨v,h1,hb,hk⟩:=wm (rd:=rd) hw;rw[jT] at hk;obtain⟨tr,e',h',hl,hk⟩:=tO hk;exact⟨_,_,_,.on mC ha (hb B) hl,hk⟩
  have hoff:cT i e=some false→(jl e i.dst .undef fun e1=>Ox fs ms z l e1 h fun tr=>k (⟨h,i.args.map e.ev,.undef,false⟩::tr))→∃tr e' h',VS fs ms B (.ops rd (i::l) e h) (.ops tr e' h')∧k tr e' h':=by
   intro mC hk;rw[jT] at hk;obtain⟨tr,e',h',hl,hk⟩:=tO hk;exact⟨_,_,_,.off mC hl,hk⟩
  replace hw:NR fs ms z i (Ox fs ms z l) e h k:=hw;unfold NR at hw;split at hw
  ·rename_i hg;exact dY (by simp[cT,hg]) hw
  ·rename_i d want hg;split at hw
   ·rename_i b hb;split at hw
    ·rcases gX hw with⟨rfl,h2⟩|⟨rfl,h2⟩
     ·exact dY (by simp[cT,hg,hb]) h2
     ·exact hoff (by simp[cT,hg,hb]) h2
    ·rcases gX hw with⟨rfl,h2⟩|⟨rfl,h2⟩
     ·exact hoff (by simp[cT,hg,hb]) h2
     ·exact dY (by simp[cT,hg,hb]) h2
   ·rename_i v hne hv;refine hoff ?_ hw;cases v with
    |bool b=>exact absurd rfl (hne b)
    |_=>simp only[cT,hg,hv]
   ·exact hw.elim
theorem aq:∀{c:AC} {e:Env} {h:Heap} {k:AX→Env→Heap→Prop},Df fs ms B rd z c e h k→VC fs ms B rd c e h k
 |.skip,e,h,k,hw=>⟨_,_,_,.skip,hw⟩
 |.ops l,e,h,k,hw=>by
  obtain⟨tr,e',h',hb,hk⟩:=b9 (B:=B) (rd:=rd) (show Lu fs ms z l e h _ from hw);exact⟨_,_,_,.ops hb,hk⟩
 |.bN l win,e,h,k,hw=>by
  replace hw:match win.all (·.isEmpty) with
   |true=>Lu fs ms z l e h fun e h=>k .normal e h
   |false=>Ox fs ms z l e h fun tr e1 h1=>yl l win tr h1∧k .normal e1 h1:=hw
  split at hw
  ·rename_i wR;obtain⟨tr,e',h',hb,hk⟩:=b9 (B:=B) (rd:=rd) hw;exact⟨_,_,_,.bN wR hb,hk⟩
  ·obtain⟨tr,e',h',hb,hk⟩:=tO (B:=B) (rd:=rd) hw;exact⟨_,_,_,.KS hk.1 hb,hk.2⟩
 |.seq a b,e,h,k,hw=>by
  obtain⟨x,e1,h1,hb,hk⟩:=aq (show Df fs ms B rd z a e h _ from hw);cases x with
  |normal=>
   obtain⟨x2,e2,h2,jh,hk2⟩:=aq (show Df fs ms B rd z b e1 h1 k from hk);exact⟨_,_,_,.w7 hb jh,hk2⟩
  |exit i=>exact⟨_,_,_,.n9 hb rfl,hk⟩
  |ret=>exact⟨_,_,_,.n9 hb rfl,hk⟩
  |panic v=>exact⟨_,_,_,.n9 hb rfl,hk⟩
 |.cond c a b,e,h,k,hw=>by
  obtain⟨ha,hw⟩:=pJ (show LX e c _ from hw);split at hw
  ·rename_i t ht;rcases gX hw with⟨rfl,h2⟩|⟨rfl,h2⟩
   ·obtain⟨x,e1,h1,hb,hk⟩:=aq h2;exact⟨_,_,_,.cond ha ht hb,hk⟩
   ·obtain⟨x,e1,h1,hb,hk⟩:=aq h2;exact⟨_,_,_,.cond ha ht hb,hk⟩
  ·exact hw.elim
 |.block id c,e,h,k,hw=>by
  obtain⟨x,e1,h1,hb,hk⟩:=aq (show Df fs ms B rd z c e h _ from hw);cases x with
  |exit i=>
   simp only at hk;split at hk
   ·rename_i K3;have:=Nat.eq_of_beq_eq_true K3;subst this;exact⟨_,_,_,.nv hb,hk⟩
   ·rename_i K3;refine⟨_,_,_,.fR hb ?_,hk⟩;intro j hj hji;simp only[AX.exit.injEq] at hj;subst hj hji;simp at K3
  |normal=>exact⟨_,_,_,.fR hb (by simp),hk⟩
  |ret=>exact⟨_,_,_,.fR hb (by simp),hk⟩
  |panic v=>exact⟨_,_,_,.fR hb (by simp),hk⟩
 |.loop c,e,h,k,hw=>hw
 |.rangeFunc f ps a b,e,h,k,hw=>hw
 |.exit id,e,h,k,hw=>⟨_,_,_,.exit,hw⟩
 |.ret,e,h,k,hw=>⟨_,_,_,.ret,hw⟩
 |.bad,e,h,k,hw=>hw.elim
def yK(rs:List qF)(Q:AV→Heap→Prop):AX→Env→Heap→Prop:=fun x e h=>match x with
 |.normal|.ret=>@Option.rec (List AV) (fun _=>Prop) False (fun vs=>match vs with
   |[v]=>Q v h
   |vs=>Q (.cg vs) h) (js e h rs)
 |_=>False
theorem Ej{f:Nat}{af:aC}{args:List AV}{h:Heap}{Q:AV→Heap→Prop}(hf:fs f=some af)(hlen:args.length≤af.ntmps)
  (hw:VC fs ms h.next false af.body (Env.start af.ntmps args) h (yK af.results Q)):VD fs ms f args h Q:=by
 obtain⟨x,e1,h1,hb,hk⟩:=hw;have hx:x=.normal∨x=.ret:=by
  cases x with
  |normal=>exact .inl rfl
  |ret=>exact .inr rfl
  |exit i=>exact hk.elim
  |panic v=>exact hk.elim
 have hk':∃vs,js e1 h1 af.results=some vs∧Q (cR vs) h1:=by
  rcases hx with rfl|rfl<;>
  ·simp only[yK] at hk;cases hvs:js e1 h1 af.results with
   |some vs=>
    rw[hvs] at hk;refine⟨vs,rfl,?_⟩;rcases vs with _|⟨v,_|⟨u,r⟩⟩<;>exact hk
   |none=>
    rw[hvs] at hk;exact hk.elim
 obtain⟨vs,h2,h3⟩:=hk';exact⟨_,_,fun B=>.call hf hlen hb hx h2,h3⟩
theorem aE{f:Nat}{af:aC}{args:List AV}{h:Heap}{Q:AV→Heap→Prop}(z:Bool)(hf:fs f=some af)(hlen:args.length≤af.ntmps)
  (hw:q7 af.ntmps args fun e=>Df fs ms h.next false z af.body e h (yK af.results Q)):VD fs ms f args h Q:=by
 rw[m8] at hw;exact Ej hf hlen (aq hw)
theorem VD.mono{f:Nat}{args:List AV}{h:Heap}{Q Q':AV→Heap→Prop}(hc:VD fs ms f args h Q)(hq:∀v h',Q v h'→Q' v h'):VD fs ms f args h Q':=by
 obtain⟨v,h',hb,hk⟩:=hc;exact⟨v,h',hb,hq v h' hk⟩
theorem VC.mono{c:AC}{e:Env}{h:Heap}{Q Q':AX→Env→Heap→Prop}(hc:VC fs ms B rd c e h Q)(hq:∀x e' h',Q x e' h'→Q' x e' h'):VC fs ms B rd c e h Q':=by
 obtain⟨x,e',h',hb,hk⟩:=hc;exact⟨x,e',h',hb,hq x e' h' hk⟩
theorem bB{c:AC}{e:Env}{h:Heap}{Q:AX→Env→Heap→Prop}
  (hw:Df fs ms B rd z c e h fun x e1 h1=>match x with|.normal=>VC fs ms B rd (.loop c) e1 h1 Q|x=>Q x e1 h1):VC fs ms B rd (.loop c) e h Q:=by
 obtain⟨x,e1,h1,hb,hk⟩:=aq hw;cases x with
 |normal=>
  obtain⟨x2,e2,h2,jh,hk2⟩:=hk;exact⟨_,_,_,.lI hb jh,hk2⟩
 |exit i=>exact⟨_,_,_,.cQ hb rfl,hk⟩
 |ret=>exact⟨_,_,_,.cQ hb rfl,hk⟩
 |panic v=>exact⟨_,_,_,.cQ hb rfl,hk⟩
theorem BH{c:AC}{e e':Env}{h h':Heap}{Q:AX→Env→Heap→Prop}{p:Nat→Nat}(hg:GC B p e h e' h')(hw:VC fs ms B rd c e' h' Q):VC fs ms B rd c e h Q:=by
 obtain⟨x,e1,h1,hb,hk⟩:=hw;exact⟨x,e1,h1,.gc hg hb,hk⟩
theorem Vo{c:AC}{e:Env}{h:Heap}{Q:AX→Env→Heap→Prop}{i:Nat}{v v':AV}(bs:List Nat)(hi:Tr.get e i=some v)(hf:lX (· ∈bs) h v v')
  (hw:VC fs ms B rd c (Tr.set e i v') (gZ bs h) Q):VC fs ms B rd c e h Q:=by
 obtain⟨x,e1,h1,hb,hk⟩:=hw;exact⟨x,e1,h1,.Gs hi hf hb,hk⟩
def PC(fs:Nat→Option aC)(ms:Nat→String→Option Nat)(f:Nat)(args:List AV)(v:AV):Prop:=
 iy args=true∧v.cl=true∧VD fs ms f args ⟨0,.nil⟩ fun u g=>lX (fun _=>True) g u v
theorem j9{f:Nat}{args:List AV}{v:AV}(h1:iy args=true)(h2:v.cl=true)(h3:VD fs ms f args ⟨0,.nil⟩ fun u _=>u=v):PC fs ms f args v:=
 ⟨h1,h2,h3.mono fun u g hu=>hu▸.clean (hu▸h2)⟩
theorem Rc:∀{v:AV},v.pl=true→v.cl=true:=by
 intro v;refine AV.rec (motive_1:=fun v=>v.pl=true→v.cl=true) (motive_2:=fun l=>kV l=true→iy l=true) ?_ ?_ ?_ ?_ ?_ ?_ ?_ ?_ ?_ ?_ ?_ ?_ ?_ ?_ ?_ ?_ ?_ ?_ ?_ ?_ ?_ ?_ v
 case refine_11=>
  intro fn first aX ih1 ih2 hp
  simp only[AV.pl,Bool.and_eq_true] at hp;simp only[AV.cl,Bool.and_eq_true];exact⟨⟨ih1 hp.1.1,ih2 hp.1.2⟩,hp.2⟩
 case refine_14=>intro t v ih hp;simp only[AV.cl];exact ih (by simpa[AV.pl] using hp)
 case refine_16=>intro cs ih hp;simp only[AV.cl];exact ih (by simpa[AV.pl] using hp)
 case refine_17=>intro cs ih hp;simp only[AV.cl];exact ih (by simpa[AV.pl] using hp)
 case refine_20=>intro b o k hp;simp[AV.pl] at hp
 case refine_21=>intro _;rfl
 case refine_22=>intro x l ih1 ih2 hp;simp only[kV,Bool.and_eq_true] at hp;simp only[iy,ih1 hp.1,ih2 hp.2];rfl
 all_goals (intros;simp_all[AV.pl,AV.cl])
theorem Ku:∀{l:List AV},kV l=true→iy l=true
 |[],_=>rfl
 |x::l,hp=>by simp only[kV,Bool.and_eq_true] at hp;simp only[iy,Rc hp.1,Ku hp.2];rfl
theorem Ln{f n:Nat}(he:N1 fs ms DX n (.call f [] ⟨0,.nil⟩) isTrue=true):PC fs ms f [] (.bool true):=by
 obtain⟨h1,hb⟩:=Jq Bj (AB he);exact⟨rfl,rfl,.bool true,⟨0,.nil⟩,fun B=>.closed hb rfl rfl,.clean rfl⟩
theorem aZ{f:Nat}{args:List AV}{h:Heap}{v:AV}{Q:AV→Heap→Prop}(hp:PC fs ms f args v)(hq:Q v h):VD fs ms f args h Q:=by
 obtain⟨h1,h2,u,g,hb,hf⟩:=hp;exact⟨v,h,fun B=>.pure (hb B) h1 hf h2,hq⟩
theorem NP{f:Nat}{args args':List AV}{h:Heap}{Q:AV→Heap→Prop}(bs:List Nat)(hf:nk (· ∈bs) h args args')(hw:VD fs ms f args' (gZ bs h) Q):VD fs ms f args h Q:=by
 obtain⟨v,h1,hb,hk⟩:=hw;exact⟨v,h1,fun B=>.Po hf (hb B),hk⟩
theorem Ta{f:Nat}{args:List AV}{h:Heap}{Q:AV→Heap→Prop}(hw:VD fs ms f args h fun v h1=>∃bs v',lX (· ∈bs) h1 v v'∧Q v' (gZ bs h1)):VD fs ms f args h Q:=by
 obtain⟨v,h1,hb,bs,v',hf,hq⟩:=hw;exact⟨v',_,fun B=>.Pp (hb B) hf,hq⟩
theorem Gt{P:Nat→Prop}{g:Heap}{v v':AV}(f:lX P g v v'):v'.pl=true→v=v':=by
 induction f with
 |clean _=>intro _;rfl
 |agg h1 _ ih=>
  intro hp;simp only[AV.pl] at hp;rename_i cs cs' _
  congr 1
  refine List.ext_getElem? fun i=>?_;cases hx:cs'[i]? with
  |none=>rw[List.getElem?_eq_none (by rw[h1];exact List.getElem?_eq_none_iff.1 hx)]
  |some x=>
   have hl:=(List.getElem?_eq_some_iff.1 hx).1;have hy:=List.getElem?_eq_getElem (l:=cs) (i:=i) (by rw[h1];exact hl);rw[hy,ih i _ x hy hx (iT hp hx)]
 |cg h1 _ ih=>
  intro hp;simp only[AV.pl] at hp;rename_i cs cs' _
  congr 1
  refine List.ext_getElem? fun i=>?_;cases hx:cs'[i]? with
  |none=>rw[List.getElem?_eq_none (by rw[h1];exact List.getElem?_eq_none_iff.1 hx)]
  |some x=>
   have hl:=(List.getElem?_eq_some_iff.1 hx).1;have hy:=List.getElem?_eq_getElem (l:=cs) (i:=i) (by rw[h1];exact hl);rw[hy,ih i _ x hy hx (iT hp hx)]
 |iface _ ih=>intro hp;rw[ih (by simpa[AV.pl] using hp)]
 |aN=>intro hp;simp[AV.pl] at hp
 |sl=>intro hp;simp[AV.pl] at hp
 |ptr=>intro hp;simp[AV.pl] at hp
 |func h1 _ h2 _ ih1 ih2=>
  intro hp;simp only[AV.pl,Bool.and_eq_true] at hp;rename_i fn a a' c c' _ _
  congr 1
  ·refine List.ext_getElem? fun i=>?_;cases hx:a'[i]? with
   |none=>rw[List.getElem?_eq_none (by rw[h1];exact List.getElem?_eq_none_iff.1 hx)]
   |some x=>
    have hl:=(List.getElem?_eq_some_iff.1 hx).1;have hy:=List.getElem?_eq_getElem (l:=a) (i:=i) (by rw[h1];exact hl);rw[hy,ih1 i _ x hy hx (iT hp.1.1 hx)]
  ·refine List.ext_getElem? fun i=>?_;cases hx:c'[i]? with
   |none=>rw[List.getElem?_eq_none (by rw[h2];exact List.getElem?_eq_none_iff.1 hx)]
   |some x=>
    have hl:=(List.getElem?_eq_some_iff.1 hx).1;have hy:=List.getElem?_eq_getElem (l:=c) (i:=i) (by rw[h2];exact hl);rw[hy,ih2 i _ x hy hx (iT hp.1.2 hx)]
theorem jv{f:Nat}{args args':List AV}{h:Heap}{v:AV}{Q:AV→Heap→Prop}(hp:PC fs ms f args' v)(kL:v.pl=true)(hf:nk (fun _=>True) h args args')(hq:Q v h):VD fs ms f args h Q:=by
 obtain⟨h1,h2,u,g,hb,hu⟩:=hp;have:=Gt hu kL;subst this;exact⟨_,h,fun B=>.view hf h1 (hb B) kL,hq⟩
def Lw(s:Nat)(l:List AV)(v:AV)(g:Heap):Prop:=(l=[]∧v=.aN)∨∃b,v=.sl b 0 l.length l.length true∧g.get b=some (.cells (aj l) true s)
theorem Rx{f s:Nat}{args args':List AV}{h:Heap}{l:List AV}{Q:AV→Heap→Prop}(kK:iy args'=true)(kL:kV (aj l)=true)(hd:VD fs ms f args' ⟨0,.nil⟩ (Lw s l))(hf:nk (fun _=>True) h args args')
  (h0:l=[]→Q .aN h)(h1:Q (.sl h.next 0 l.length l.length true) (h.new (.cells (aj l) true s))):VD fs ms f args h Q:=by
 obtain⟨v,g,hb,hk⟩:=hd;rcases hk with⟨hl,hv⟩|⟨b,hv,hg⟩
 ·subst hv;exact⟨_,h,fun B=>.view hf kK (hb B) rfl,h0 hl⟩
 ·subst hv;exact⟨_,_,fun B=>.Lt hf kK (hb B) hg kL,h1⟩
theorem nk.nil{P:Nat→Prop}{g:Heap}:nk P g [] []:=⟨rfl,fun i x y hx=>by simp at hx⟩
theorem nk.cons{P:Nat→Prop}{g:Heap}{x y:AV}{l m:List AV}(h1:lX P g x y)(h2:nk P g l m):nk P g (x::l) (y::m):=by
 refine⟨by simp[h2.1],fun i a b ha hb=>?_⟩;cases i with
 |zero=>simp at ha hb;subst ha hb;exact h1
 |succ i=>exact h2.2 i a b (by simpa using ha) (by simpa using hb)
theorem nk.clean{P:Nat→Prop}{g:Heap}{l:List AV}(h:iy l=true):nk P g l l:=
 ⟨rfl,fun i x y hx hy=>by rw[hx] at hy;cases hy;exact .clean (fU h hx)⟩
theorem lX.Wn{P:Nat→Prop}{g:Heap}{l m:List AV}(h:nk P g l m):lX P g (.agg l) (.agg m):=.agg h.1 h.2
theorem lX.WE{P:Nat→Prop}{g:Heap}{l m:List AV}(h:nk P g l m):lX P g (.cg l) (.cg m):=.cg h.1 h.2
theorem lX.func'{P:Nat→Prop}{g:Heap}{fn:Fn}{a a' c c':List AV}(h:nk P g a a')(h':nk P g c c'):lX P g (.func fn a c) (.func fn a' c'):=.func h.1 h.2 h'.1 h'.2
theorem lX.ptr'{P:Nat→Prop}{g:Heap}{b o:Nat}{vs cs:List AV}{wr:Bool}{es:Nat}(hb:P b)(hg:g.get b=some (.cells vs wr es))(h:nk P g vs cs):lX P g (.ptr b o) (.fp cs o):=
 .ptr (base:=0) hb hg (by simp) (by rw[h.1];simp) fun j c y hc hy=>by rw[Nat.zero_add] at hy;exact h.2 j y c hy hc
theorem lX.row{P:Nat→Prop}{g:Heap}{b len cap k s:Nat}{op:Bool}{l vs:List AV}{wr:Bool}{es:Nat}(hb:P b)(hg:g.get b=some (.cells vs wr es))(hv:vs=aj l)(hs:aU s l=true)
  (hlen:len=l.length)(hcap:len≤cap)(hk:k≤2)(h1:1≤k→op=false)(h2:2≤k→cap=len)(kK:iy l=true):lX P g (.sl b 0 len cap op) (.fz k l):=by
 subst hv;have hf:=jZ hs;refine .sl hb hg hs hlen (by rw[hf.1];simp) hcap hk h1 h2 ?_;intro i x j c y hx hc hy;rw[Nat.zero_add] at hy;obtain⟨i',x',j',a1,a2,a3⟩:=hf.2 _ _ hy;have e1:=cU hs hx;have e2:=cU hs a1;have l1:=(List.getElem?_eq_some_iff.1 hc).1;have l2:=(List.getElem?_eq_some_iff.1 a2).1;have hsp:0<s:=by omega
 have hi:i=i':=by
  have q1:(i*s+j)/s=i:=by rw[Nat.mul_comm,Nat.mul_add_div hsp,Nat.div_eq_of_lt (by omega)];omega
  have q2:(i'*s+j')/s=i':=by rw[Nat.mul_comm,Nat.mul_add_div hsp,Nat.div_eq_of_lt (by omega)];omega
  rw[←q1,a3,q2]
 subst hi;have hj:j=j':=by omega
 subst hj;rw[hx] at a1;cases a1
 rw[hc] at a2;cases a2
 exact .clean (fU (mO (fU kK hx)) hc)
def ek(d:Nat)(l:List (Nat×AV)):Env:=sk d (kn l fun _=>none)
def hk(n:Nat)(l:List (Nat×cw)):Heap:=⟨n,l.foldr (fun p t=>Tr.set t p.1 p.2) .nil⟩
theorem oV:∀(d:Nat) (g:Nat→Option AV) (i:Nat) (v:AV),Tr.get (sk d g) i=some v→g i=some v
 |0,g,i,v,h=>by simp[sk,Tr.get] at h
 |d+1,g,i,v,h=>by
  rcases Nat.eq_zero_or_pos i with rfl|hi
  ·simpa[sk,Tr.get] using h
  ·rcases Nat.mod_two_eq_zero_or_one i with h2|h2
   ·rw[sk,Tr.fu _ _ h2 (by omega)] at h;have:=oV d _ _ v h;rw[←this]
    congr 1
    omega
   ·rw[sk,Tr.iE _ _ h2] at h;have:=oV d _ _ v h;rw[←this]
    congr 1
    omega
def ja(p:Nat→Nat)(n:Nat)(e:Env):List (Nat×AV)→Prop
 |[]=>True
 |(i,v)::l=>(∃u,Tr.get e i=some u∧qG p n v u)∧ja p n e l
theorem mY{p:Nat→Nat}{n:Nat}{e:Env}:∀{l:List (Nat×AV)},ja p n e l→∀{i:Nat} {v:AV},kn l (fun _=>none) i=some v→∃u,Tr.get e i=some u∧qG p n v u
 |[],_,i,v,hv=>by simp[kn] at hv
 |(j,w)::l,h,i,v,hv=>by
  simp only[kn] at hv;cases hb:Nat.beq i j with
  |false=>rw[hb] at hv;exact mY h.2 hv
  |true=>
   have:=Nat.eq_of_beq_eq_true hb;subst this;rw[hb] at hv;simp only[cond_true,Option.some.injEq] at hv;subst hv;exact h.1
def xe(p:Nat→Nat)(n:Nat)(h:Heap):List (Nat×cw)→Prop
 |[]=>True
 |(b,x)::l=>b<n∧(∃y,h.get (p b)=some y∧ki p n x y)∧xe p n h l
theorem vm{n:Nat}:∀{l:List (Nat×cw)} {b:Nat} {x:cw},(hk n l).get b=some x→(b,x)∈l
 |[],b,x,h=>by simp[hk,Heap.get,Tr.get] at h
 |(c,y)::l,b,x,h=>by
  have:(Tr.set (l.foldr (fun p t=>Tr.set t p.1 p.2) .nil) c y).get b=some x:=h;rw[Tr.bt] at this;split at this
  ·rename_i he;cases this;subst he;exact List.mem_cons_self
  ·exact List.mem_cons_of_mem _ (vm (n:=n) this)
theorem sY{p:Nat→Nat}{n:Nat}{h:Heap}:∀{l:List (Nat×cw)},xe p n h l→∀{b:Nat} {x:cw},(b,x)∈l→b<n∧∃y,h.get (p b)=some y∧ki p n x y
 |[],_,b,x,hm=>by simp at hm
 |(c,y)::l,hl,b,x,hm=>by
  rcases List.mem_cons.1 hm with he|hm
  ·cases he;exact⟨hl.1,hl.2.1⟩
  ·exact sY hl.2.2 hm
theorem Ls{c:AC}{e:Env}{h:Heap}{Q:AX→Env→Heap→Prop}(d:Nat)(l:List (Nat×AV))(n:Nat)(m:List (Nat×cw))(p:Nat→Nat)(hl:ja p n e l)(hm:xe p n h m)
  (hp:∀b c,b∈m.map (·.1)→c∈m.map (·.1)→p b=p c→b=c)(tB:∀b,b<B→p b=b)(hn:B≤n)
  (hw:VC fs ms B rd c (ek d l) (hk n m) Q):VC fs ms B rd c e h Q:=by
 refine BH (p:=p) ⟨?_,?_,?_,tB,hn⟩ hw
 ·intro i v hv;exact mY hl (oV d _ i v hv)
 ·intro b x hx;exact sY hm (vm hx)
 ·intro b c hb hc he;have mem:∀b,(hk n m).get b≠none→b∈m.map (·.1):=by
   intro b hb;cases hx:(hk n m).get b with
   |none=>exact absurd hx hb
   |some x=>exact List.mem_map.2 ⟨(b,x),vm hx,rfl⟩
  exact hp b c (mem b hb) (mem c hc) he
theorem De{c:AC}{e:Env}{h:Heap}{Q:AX→Env→Heap→Prop}(d:Nat)(l:List (Nat×AV))(hl:ja id 0 e l)
  (hw:VC fs ms 0 rd c (ek d l) (hk 0 []) Q):VC fs ms 0 rd c e h Q:=
 Ls d l 0 [] id hl trivial (fun b c hb=>by simp at hb) (fun b hb=>rfl) (Nat.le_refl _) hw
theorem Ae{e:Env}:∀{l:List (Nat×AV)},aW e l→∀{i:Nat} {v:AV},kn l (fun _=>none) i=some v→Tr.get e i=some v
 |[],_,i,v,hv=>by simp[kn] at hv
 |(j,w)::l,h,i,v,hv=>by
  simp only[kn] at hv;cases hb:Nat.beq i j with
  |false=>rw[hb] at hv;exact Ae h.2 hv
  |true=>
   have:=Nat.eq_of_beq_eq_true hb;subst this;rw[hb] at hv;simp only[cond_true,Option.some.injEq] at hv;subst hv;exact h.1
theorem an{c:AC}{e:Env}{h:Heap}{Q:AX→Env→Heap→Prop}(d:Nat)(l:List (Nat×AV))(hl:aW e l)(hw:VC fs ms B rd c (ek d l) h Q):VC fs ms B rd c e h Q:=by
 obtain⟨x,e1,h1,hb,hk⟩:=hw;exact⟨x,e1,h1,.drop (fun i v hv=>Ae hl (oV d _ i v hv)) hb,hk⟩
theorem oU{p:Nat→Nat}{n:Nat}{e:Env}{i:Nat}{v:AV}{l:List (Nat×AV)}(h:Tr.get e i=some v)(hc:v.cl=true)(hl:ja p n e l):ja p n e ((i,v)::l):=⟨⟨v,h,.cl hc⟩,hl⟩
end
end Ads
end Go.Proofs.Ytenafeojcgmnhaa
