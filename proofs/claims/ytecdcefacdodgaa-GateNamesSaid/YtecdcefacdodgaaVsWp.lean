/-
  What code must come to in Vs, as a proposition that is worked out from the code.
-/
import Derived.Test.YtecdcefacdodgaaVsSim
import Derived.Test.YtecdcefacdodgaaAdsEvalX
set_option linter.unusedSimpArgs false
set_option linter.unusedVariables false
namespace Go.Proofs.Ytecdcefacdodgaa
namespace Ads
abbrev jl{α:Type}(o:Option α)(k:α→Prop):Prop:=@Option.rec α (fun _=>Prop) False k o
theorem dX{α:Type}{o:Option α}{k:α→Prop}{v:α}(h:o=some v)(hk:k v):@Option.rec α (fun _=>Prop) False k o:=by rw[h];exact hk
section
variable (fs:Nat→Option az) (ms:Nat→String→Option Nat) (B:Nat) (rd:Bool) (z:Bool)
def VC(c:AC)(e:Env)(h:Heap)(Q:AX→Env→Heap→Prop):Prop:=∃x e' h',VS fs ms B (.code rd c e h) (.code x e' h')∧Q x e' h'
def VO(l:List bh)(e:Env)(h:Heap)(Q:Env→Heap→Prop):Prop:=∃tr e' h',VS fs ms B (.ops rd l e h) (.ops tr e' h')∧Q e' h'
def VD(f:Nat)(args:List AV)(h:Heap)(Q:AV→Heap→Prop):Prop:=∃v h',(∀B,VS fs ms B (.call f args h) (.val v h'))∧Q v h'
def Q6(e:Env)(r:bA)(k:AV→Prop):Prop:=match r with
 |.t i=>match Tr.get e i with
  |some v=>k v
  |none=>False
 |.c v=>k v
def zJ(e:Env)(l:List bA):(List AV→Prop)→Prop:=
 List.rec (motive:=fun _=>(List AV→Prop)→Prop) (fun k=>k []) (fun r _ ih k=>Q6 e r fun v=>ih fun vs=>k (v::vs)) l
def MB(h:Heap)(x:ck)(k:Nat→Heap→Prop):Prop:=match z with
 |true=>k h.next (h.new x)
 |false=>match h with
  |⟨n,m⟩=>Cj m n x fun t=>k n ⟨n+1,t⟩
def PX(h:Heap)(b:Nat)(x:ck)(k:Heap→Prop):Prop:=match z with
 |true=>k (h.set b x)
 |false=>match h with
  |⟨n,m⟩=>Cj m b x fun t=>k ⟨n,t⟩
def Ee(h:Heap)(b o:Nat)(xs:List AV)(k:Heap→Prop):Prop:=match h.get b with
 |some (.cells vs true es)=>AB (Nat.ble (o+xs.length) vs.length&&bY xs) (PX z h b (.cells (Heap.splice vs o xs) true es) k) False
 |_=>False
def Jd(n:Nat)(vals:List AV)(h:Heap)(k:AV→Prop):Prop:=match vals with
 |[.fp cs o]=>AB (Nat.beq o 0&&Nat.beq n cs.length) (k (.agg cs)) (jl (rV (.bI n) [.fp cs o] h) k)
 |vals=>jl (rV (.bI n) vals h) k
def SQ(o:pR)(vals:List AV):Bool:=
 match o with
 |.bin op=>match vals with
  |.str _::_=>match op with
   |.add=>false
   |_=>true
  |_=>match op with
   |.quo|.rem|.shl|.shr=>false
   |_=>true
 |.aH _|.ig _ _|.Ga _ _ _|.Gb|.slice _ _ _ _|.lQ _ _|.gW _ _ _ _ _=>false
 |_=>true
def rJ(o:fh)(vals:List AV)(h:Heap)(k:AV→Heap→Prop):Prop:=
 match o with
 |.p o=>match o with
  |.pick=>match vals with
   |[.bool c,a,b]=>AB c (k a h) (k b h)
   |_=>False
  |o=>match SQ o vals with
   |true=>jl (pV o vals) fun v=>k v h
   |false=>∃v,pV o vals=some v∧k v h
 |.a o=>match o with
  |.dj zs n b=>∃x f,aI (.dj zs n b) vals=some (x,f)∧MB z h x fun b h1=>k (f b) h1
  |o=>match Tm o vals with
   |some (x,f)=>MB z h x fun b h1=>k (f b) h1
   |none=>False
 |.r o=>match z with
  |true=>∃v,rV o vals h=some v∧k v h
  |false=>match o with
   |.bI n=>Jd n vals h fun v=>k v h
   |o=>jl (rV o vals h) fun v=>k v h
 |.e o=>match z with
  |true=>∃v h1,eV o vals h=some (v,h1)∧k v h1
  |false=>match o with
   |.store n=>match vals with
    |[.ptr b o,v]=>AB (Nat.beq v.cells.length n) (Ee z h b o v.cells fun h1=>k .undef h1) False
    |_=>False
   |o=>∃v h1,eV o vals h=some (v,h1)∧k v h1
 |.call=>match vals with
  |.func (.func f) first aF::args=>VD fs ms f (first++(args++aF)) h k
  |fv::args=>∃v h1,(∀B,VS fs ms B (.cu fv args h) (.val v h1))∧k v h1
  |[]=>False
 |.invoke name=>match vals with
  |.iface t x::args=>match ms t name with
   |some f=>VD fs ms f (x::args) h k
   |none=>False
  |_=>False
 |_=>False
def P8(i:bh)(ih:Env→Heap→(Env→Heap→Prop)→Prop)(e:Env)(h:Heap)(k:Env→Heap→Prop):Prop:=match i.guard with
  |none=>zJ e i.args fun vals=>rJ fs ms z i.op vals h fun v h1=>iE e i.dst v fun e1=>ih e1 h1 k
  |some (d,want)=>match Tr.get e d with
   |some (.bool b)=>match want with
    |true=>AB b (zJ e i.args fun vals=>rJ fs ms z i.op vals h fun v h1=>iE e i.dst v fun e1=>ih e1 h1 k) (iE e i.dst .undef fun e1=>ih e1 h k)
    |false=>AB b (iE e i.dst .undef fun e1=>ih e1 h k) (zJ e i.args fun vals=>rJ fs ms z i.op vals h fun v h1=>iE e i.dst v fun e1=>ih e1 h1 k)
   |some _=>iE e i.dst .undef fun e1=>ih e1 h k
   |none=>False
def NS(l:List bh):Env→Heap→(Env→Heap→Prop)→Prop:=
 List.rec (motive:=fun _=>Env→Heap→(Env→Heap→Prop)→Prop) (fun e h k=>k e h) (fun i _ ih=>P8 fs ms z i ih) l
def P9(i:bh)(ih:Env→Heap→(List aG→Env→Heap→Prop)→Prop)(e:Env)(h:Heap)(k:List aG→Env→Heap→Prop):Prop:=match i.guard with
  |none=>zJ e i.args fun vals=>rJ fs ms z i.op vals h fun v h1=>iE e i.dst v fun e1=>ih e1 h1 fun tr=>k (⟨h,vals,v,true⟩::tr)
  |some (d,want)=>match Tr.get e d with
   |some (.bool b)=>match want with
    |true=>AB b (zJ e i.args fun vals=>rJ fs ms z i.op vals h fun v h1=>iE e i.dst v fun e1=>ih e1 h1 fun tr=>k (⟨h,vals,v,true⟩::tr)) (iE e i.dst .undef fun e1=>ih e1 h fun tr=>k (⟨h,i.args.map e.ev,.undef,false⟩::tr))
    |false=>AB b (iE e i.dst .undef fun e1=>ih e1 h fun tr=>k (⟨h,i.args.map e.ev,.undef,false⟩::tr)) (zJ e i.args fun vals=>rJ fs ms z i.op vals h fun v h1=>iE e i.dst v fun e1=>ih e1 h1 fun tr=>k (⟨h,vals,v,true⟩::tr))
   |some _=>iE e i.dst .undef fun e1=>ih e1 h fun tr=>k (⟨h,i.args.map e.ev,.undef,false⟩::tr)
   |none=>False
def QE(l:List bh):Env→Heap→(List aG→Env→Heap→Prop)→Prop:=
 List.rec (motive:=fun _=>Env→Heap→(List aG→Env→Heap→Prop)→Prop) (fun e h k=>k [] e h) (fun i _ ih=>P9 fs ms z i ih) l
def kX(c:AC):Env→Heap→(AX→Env→Heap→Prop)→Prop:=
 AC.rec (motive:=fun _=>Env→Heap→(AX→Env→Heap→Prop)→Prop)
  (fun e h k=>k .normal e h)
  (fun l e h k=>NS fs ms z l e h fun e h=>k .normal e h)
  (fun l win e h k=>match win.all (·.isEmpty) with
   |true=>NS fs ms z l e h fun e h=>k .normal e h
   |false=>QE fs ms z l e h fun tr e1 h1=>zl l win tr h1∧k .normal e1 h1)
  (fun _ _ ia ib e h k=>ia e h fun x e1 h1=>match x with
   |.normal=>ib e1 h1 k
   |x=>k x e1 h1)
  (fun c _ _ ia ib e h k=>Q6 e c fun v=>match v with
   |.bool t=>AB t (ia e h k) (ib e h k)
   |_=>False)
  (fun id _ ic e h k=>ic e h fun x e1 h1=>match x with
   |.exit i=>match Nat.beq i id with
    |true=>k .normal e1 h1
    |false=>k (.exit i) e1 h1
   |x=>k x e1 h1)
  (fun c _ e h k=>VC fs ms B rd (.loop c) e h k)
  (fun f ps a b _ _ e h k=>VC fs ms B rd (.rangeFunc f ps a b) e h k)
  (fun id e h k=>k (.exit id) e h)
  (fun e h k=>k .ret e h)
  (fun _ _ _=>False) c
end
section
variable {fs:Nat→Option az} {ms:Nat→String→Option Nat} {B:Nat} {rd:Bool} {z:Bool}
theorem sv{α:Type}{o:Option α}{k:α→Prop}(h:jl o k):∃v,o=some v∧k v:=by
 cases o with
 |none=>exact h.elim
 |some v=>exact⟨v,rfl,h⟩
theorem yx{e:Env}{r:bA}{k:AV→Prop}(h:Q6 e r k):dB e [r]=true∧k (e.ev r):=by
 cases r with
 |t i=>
  simp only[Q6] at h;split at h
  ·rename_i v hv;exact⟨by simp[dB,hv],by simp only[Env.ev,Dj hv];exact h⟩
  ·exact h.elim
 |c v=>exact⟨rfl,h⟩
theorem AR{e:Env}{r:bA}{l:List bA}(h1:dB e [r]=true)(h2:dB e l=true):dB e (r::l)=true:=by
 cases r with
 |t i=>simp only[dB,Bool.and_true] at h1⊢;rw[h1,h2];rfl
 |c v=>exact h2
theorem qZ{e:Env}:∀{l:List bA} {k:List AV→Prop},zJ e l k→dB e l=true∧k (l.map e.ev)
 |[],k,h=>⟨rfl,h⟩
 |r::l,k,h=>by
  obtain⟨h1,h2⟩:=yx h;obtain⟨h3,h4⟩:=qZ h2;exact⟨AR h1 h3,h4⟩
theorem E8{h:Heap}{x:ck}{k:Nat→Heap→Prop}(hn:MB z h x k):k h.next (h.new x):=by
 cases z with
 |true=>exact hn
 |false=>simp only[MB,sJ] at hn;exact hn
theorem MR{h:Heap}{b:Nat}{x:ck}{k:Heap→Prop}(hn:PX z h b x k):k (h.set b x):=by
 cases z with
 |true=>exact hn
 |false=>simp only[PX,sJ] at hn;exact hn
theorem iI{t:Bool}{X Y:Prop}(h:AB t X Y):(t=true∧X)∨(t=false∧Y):=by
 cases t with
 |true=>exact .inl ⟨rfl,h⟩
 |false=>exact .inr ⟨rfl,h⟩
theorem Av{h:Heap}{b o:Nat}{xs:List AV}{k:Heap→Prop}(hs:Ee z h b o xs k):∃h1,h.cJ b o xs=some h1∧k h1:=by
 unfold Ee at hs;split at hs
 ·rename_i vs es hg;rcases iI hs with⟨h1,h2⟩|⟨_,h2⟩
  ·refine⟨_,?_,MR h2⟩;simp only[Heap.cJ,hg,h1,cond_true]
  ·exact h2.elim
 ·exact hs.elim
theorem xh{o:fh}{vals:List AV}{h:Heap}{k:AV→Heap→Prop}(hw:rJ fs ms z o vals h k):∃v h1,(∀B,VS fs ms B (.op rd o vals h) (.val v h1))∧k v h1:=by
 cases o with
 |p o=>
  simp only[rJ] at hw;split at hw
  ·split at hw
   ·rename_i c a b;rcases iI hw with⟨rfl,h2⟩|⟨rfl,h2⟩
    ·exact⟨_,_,fun _=>.CN (v:=a) rfl,h2⟩
    ·exact⟨_,_,fun _=>.CN (v:=b) rfl,h2⟩
   ·exact hw.elim
  ·split at hw
   ·obtain⟨v,h1,h2⟩:=sv hw;exact⟨v,h,fun _=>.CN h1,h2⟩
   ·obtain⟨v,h1,h2⟩:=hw;exact⟨v,h,fun _=>.CN h1,h2⟩
 |a o=>
  simp only[rJ] at hw;split at hw
  ·obtain⟨x,f,h1,h2⟩:=hw;exact⟨_,_,fun _=>.ME h1,E8 h2⟩
  ·split at hw
   ·rename_i x f hv;rw[CQ] at hv;exact⟨_,_,fun _=>.ME hv,E8 hw⟩
   ·exact hw.elim
 |r o=>
  simp only[rJ] at hw;split at hw
  ·obtain⟨v,h3,h4⟩:=hw;exact⟨v,h,fun _=>.Fa h3,h4⟩
  split at hw
  ·rename_i n;unfold Jd at hw;split at hw
   ·rename_i cs o;rcases iI hw with⟨h1,h2⟩|⟨_,h2⟩
    ·simp only[Bool.and_eq_true] at h1;have e1:=Nat.eq_of_beq_eq_true h1.1;have e2:=Nat.eq_of_beq_eq_true h1.2;subst e1 e2;refine⟨_,_,fun _=>.Fa (v:=.agg cs) ?_,h2⟩;simp only[rV,l1,Nat.zero_add,List.drop_zero,List.take_length];rw[Nat.ble_eq_true_of_le (Nat.le_refl _)];rfl
    ·obtain⟨v,h3,h4⟩:=sv h2;exact⟨v,h,fun _=>.Fa h3,h4⟩
   ·obtain⟨v,h3,h4⟩:=sv hw;exact⟨v,h,fun _=>.Fa h3,h4⟩
  ·obtain⟨v,h3,h4⟩:=sv hw;exact⟨v,h,fun _=>.Fa h3,h4⟩
 |e o=>
  simp only[rJ] at hw;split at hw
  ·obtain⟨v,h1,h2,h3⟩:=hw;exact⟨v,h1,fun _=>.KE h2,h3⟩
  split at hw
  ·rename_i n;split at hw
   ·rename_i b o v;rcases iI hw with⟨h1,h2⟩|⟨_,h2⟩
    ·obtain⟨g1,h3,h4⟩:=Av h2;refine⟨_,_,fun _=>.KE (v:=.undef) (h1:=g1) ?_,h4⟩;show eI (.store n) [.ptr b o,v] h=_;simp only[eI,h1,cond_true,h3,Option.map_some]
    ·exact h2.elim
   ·exact hw.elim
  ·obtain⟨v,h1,h2,h3⟩:=hw;exact⟨v,h1,fun _=>.KE h2,h3⟩
 |call=>
  simp only[rJ] at hw;split at hw
  ·obtain⟨v,h1,hb,hk⟩:=hw;exact⟨v,h1,fun B=>.lI (.cu (hb B)),hk⟩
  ·obtain⟨v,h1,hb,hk⟩:=hw;exact⟨v,h1,fun B=>.lI (hb B),hk⟩
  ·exact hw.elim
 |invoke name=>
  simp only[rJ] at hw;split at hw
  ·split at hw
   ·rename_i f hf;obtain⟨v,h1,hb,hk⟩:=hw;exact⟨v,h1,fun B=>.jU hf (hb B),hk⟩
   ·exact hw.elim
  ·exact hw.elim
 |panic=>exact hw.elim
 |bad=>exact hw.elim
theorem qv:∀{l:List bh} {e:Env} {h:Heap} {k:Env→Heap→Prop},NS fs ms z l e h k→VO fs ms B rd l e h k
 |[],e,h,k,hw=>⟨_,_,_,.nil,hw⟩
 |i::l,e,h,k,hw=>by
  have dI:cM i e=some true→(zJ e i.args fun vals=>rJ fs ms z i.op vals h fun v h1=>iE e i.dst v fun e1=>NS fs ms z l e1 h1 k)→VO fs ms B rd (i::l) e h k:=by
   intro oS hw;obtain⟨ha,hw⟩:=qZ hw;obtain⟨v,h1,hb,hk⟩:=xh (rd:=rd) hw;rw[jJ] at hk;obtain⟨tr,e',h',hl,hk⟩:=qv hk;exact⟨_,_,_,.on oS ha (hb B) hl,hk⟩
  have hoff:cM i e=some false→(iE e i.dst .undef fun e1=>NS fs ms z l e1 h k)→VO fs ms B rd (i::l) e h k:=by
   intro oS hk;rw[jJ] at hk;obtain⟨tr,e',h',hl,hk⟩:=qv hk;exact⟨_,_,_,.off oS hl,hk⟩
  replace hw:P8 fs ms z i (NS fs ms z l) e h k:=hw;unfold P8 at hw;split at hw
  ·rename_i hg;exact dI (by simp[cM,hg]) hw
  ·rename_i d want hg;split at hw
   ·rename_i b hb;split at hw
    ·rcases iI hw with⟨rfl,h2⟩|⟨rfl,h2⟩
     ·exact dI (by simp[cM,hg,hb]) h2
     ·exact hoff (by simp[cM,hg,hb]) h2
    ·rcases iI hw with⟨rfl,h2⟩|⟨rfl,h2⟩
     ·exact hoff (by simp[cM,hg,hb]) h2
     ·exact dI (by simp[cM,hg,hb]) h2
   ·rename_i v hne hv;refine hoff ?_ hw;cases v with
    |bool b=>exact absurd rfl (hne b)
    |_=>simp only[cM,hg,hv]
   ·exact hw.elim
theorem tV:∀{l:List bh} {e:Env} {h:Heap} {k:List aG→Env→Heap→Prop},QE fs ms z l e h k→∃tr e' h',VS fs ms B (.ops rd l e h) (.ops tr e' h')∧k tr e' h'
 |[],e,h,k,hw=>⟨_,_,_,.nil,hw⟩
 |i::l,e,h,k,hw=>by
  have dI:cM i e=some true→(zJ e i.args fun vals=>rJ fs ms z i.op vals h fun v h1=>iE e i.dst v fun e1=>QE fs ms z l e1 h1 fun tr=>k (⟨h,vals,v,true⟩::tr))→∃tr e' h',VS fs ms B (.ops rd (i::l) e h) (.ops tr e' h')∧k tr e' h':=by
   intro oS hw;obtain⟨ha,hw⟩:=qZ hw;obtain⟨v,h1,hb,hk⟩:=xh (rd:=rd) hw;rw[jJ] at hk;obtain⟨tr,e',h',hl,hk⟩:=tV hk;exact⟨_,_,_,.on oS ha (hb B) hl,hk⟩
  have hoff:cM i e=some false→(iE e i.dst .undef fun e1=>QE fs ms z l e1 h fun tr=>k (⟨h,i.args.map e.ev,.undef,false⟩::tr))→∃tr e' h',VS fs ms B (.ops rd (i::l) e h) (.ops tr e' h')∧k tr e' h':=by
   intro oS hk;rw[jJ] at hk;obtain⟨tr,e',h',hl,hk⟩:=tV hk;exact⟨_,_,_,.off oS hl,hk⟩
  replace hw:P9 fs ms z i (QE fs ms z l) e h k:=hw;unfold P9 at hw;split at hw
  ·rename_i hg;exact dI (by simp[cM,hg]) hw
  ·rename_i d want hg;split at hw
   ·rename_i b hb;split at hw
    ·rcases iI hw with⟨rfl,h2⟩|⟨rfl,h2⟩
     ·exact dI (by simp[cM,hg,hb]) h2
     ·exact hoff (by simp[cM,hg,hb]) h2
    ·rcases iI hw with⟨rfl,h2⟩|⟨rfl,h2⟩
     ·exact hoff (by simp[cM,hg,hb]) h2
     ·exact dI (by simp[cM,hg,hb]) h2
   ·rename_i v hne hv;refine hoff ?_ hw;cases v with
    |bool b=>exact absurd rfl (hne b)
    |_=>simp only[cM,hg,hv]
   ·exact hw.elim
theorem bg:∀{c:AC} {e:Env} {h:Heap} {k:AX→Env→Heap→Prop},kX fs ms B rd z c e h k→VC fs ms B rd c e h k
 |.skip,e,h,k,hw=>⟨_,_,_,.skip,hw⟩
 |.ops l,e,h,k,hw=>by
  obtain⟨tr,e',h',hb,hk⟩:=qv (B:=B) (rd:=rd) (show NS fs ms z l e h _ from hw);exact⟨_,_,_,.ops hb,hk⟩
 |.cm l win,e,h,k,hw=>by
  replace hw:match win.all (·.isEmpty) with
   |true=>NS fs ms z l e h fun e h=>k .normal e h
   |false=>QE fs ms z l e h fun tr e1 h1=>zl l win tr h1∧k .normal e1 h1:=hw
  split at hw
  ·rename_i xO;obtain⟨tr,e',h',hb,hk⟩:=qv (B:=B) (rd:=rd) hw;exact⟨_,_,_,.cm xO hb,hk⟩
  ·obtain⟨tr,e',h',hb,hk⟩:=tV (B:=B) (rd:=rd) hw;exact⟨_,_,_,.M5 hk.1 hb,hk.2⟩
 |.seq a b,e,h,k,hw=>by
  obtain⟨x,e1,h1,hb,hk⟩:=bg (show kX fs ms B rd z a e h _ from hw);cases x with
  |normal=>
   obtain⟨x2,e2,h2,jf,hk2⟩:=bg (show kX fs ms B rd z b e1 h1 k from hk);exact⟨_,_,_,.xX hb jf,hk2⟩
  |exit i=>exact⟨_,_,_,.ou hb rfl,hk⟩
  |ret=>exact⟨_,_,_,.ou hb rfl,hk⟩
  |panic v=>exact⟨_,_,_,.ou hb rfl,hk⟩
 |.cond c a b,e,h,k,hw=>by
  obtain⟨ha,hw⟩:=yx (show Q6 e c _ from hw);split at hw
  ·rename_i t ht;rcases iI hw with⟨rfl,h2⟩|⟨rfl,h2⟩
   ·obtain⟨x,e1,h1,hb,hk⟩:=bg h2;exact⟨_,_,_,.cond ha ht hb,hk⟩
   ·obtain⟨x,e1,h1,hb,hk⟩:=bg h2;exact⟨_,_,_,.cond ha ht hb,hk⟩
  ·exact hw.elim
 |.block id c,e,h,k,hw=>by
  obtain⟨x,e1,h1,hb,hk⟩:=bg (show kX fs ms B rd z c e h _ from hw);cases x with
  |exit i=>
   simp only at hk;split at hk
   ·rename_i Nr;have:=Nat.eq_of_beq_eq_true Nr;subst this;exact⟨_,_,_,.nD hb,hk⟩
   ·rename_i Nr;refine⟨_,_,_,.eO hb ?_,hk⟩;intro j hj hji;simp only[AX.exit.injEq] at hj;subst hj hji;simp at Nr
  |normal=>exact⟨_,_,_,.eO hb (by simp),hk⟩
  |ret=>exact⟨_,_,_,.eO hb (by simp),hk⟩
  |panic v=>exact⟨_,_,_,.eO hb (by simp),hk⟩
 |.loop c,e,h,k,hw=>hw
 |.rangeFunc f ps a b,e,h,k,hw=>hw
 |.exit id,e,h,k,hw=>⟨_,_,_,.exit,hw⟩
 |.ret,e,h,k,hw=>⟨_,_,_,.ret,hw⟩
 |.bad,e,h,k,hw=>hw.elim
def Bf(rs:List qP)(Q:AV→Heap→Prop):AX→Env→Heap→Prop:=fun x e h=>match x with
 |.normal|.ret=>@Option.rec (List AV) (fun _=>Prop) False (fun vs=>match vs with
   |[v]=>Q v h
   |vs=>Q (.cC vs) h) (iS e h rs)
 |_=>False
theorem Fu{f:Nat}{af:az}{args:List AV}{h:Heap}{Q:AV→Heap→Prop}(hf:fs f=some af)(hlen:args.length≤af.ntmps)
  (hw:VC fs ms h.next false af.body (Env.start af.ntmps args) h (Bf af.results Q)):VD fs ms f args h Q:=by
 obtain⟨x,e1,h1,hb,hk⟩:=hw;have hx:x=.normal∨x=.ret:=by
  cases x with
  |normal=>exact .inl rfl
  |ret=>exact .inr rfl
  |exit i=>exact hk.elim
  |panic v=>exact hk.elim
 have hk':∃vs,iS e1 h1 af.results=some vs∧Q (cI vs) h1:=by
  rcases hx with rfl|rfl<;>
  ·simp only[Bf] at hk;cases hvs:iS e1 h1 af.results with
   |some vs=>
    rw[hvs] at hk;refine⟨vs,rfl,?_⟩;rcases vs with _|⟨v,_|⟨u,r⟩⟩<;>exact hk
   |none=>
    rw[hvs] at hk;exact hk.elim
 obtain⟨vs,h2,h3⟩:=hk';exact⟨_,_,fun B=>.call hf hlen hb hx h2,h3⟩
theorem aA{f:Nat}{af:az}{args:List AV}{h:Heap}{Q:AV→Heap→Prop}(z:Bool)(hf:fs f=some af)(hlen:args.length≤af.ntmps)
  (hw:lT af.ntmps args fun e=>kX fs ms h.next false z af.body e h (Bf af.results Q)):VD fs ms f args h Q:=by
 rw[nk] at hw;exact Fu hf hlen (bg hw)
theorem VD.mono{f:Nat}{args:List AV}{h:Heap}{Q Q':AV→Heap→Prop}(hc:VD fs ms f args h Q)(hq:∀v h',Q v h'→Q' v h'):VD fs ms f args h Q':=by
 obtain⟨v,h',hb,hk⟩:=hc;exact⟨v,h',hb,hq v h' hk⟩
theorem VC.mono{c:AC}{e:Env}{h:Heap}{Q Q':AX→Env→Heap→Prop}(hc:VC fs ms B rd c e h Q)(hq:∀x e' h',Q x e' h'→Q' x e' h'):VC fs ms B rd c e h Q':=by
 obtain⟨x,e',h',hb,hk⟩:=hc;exact⟨x,e',h',hb,hq x e' h' hk⟩
theorem fK{c:AC}{e:Env}{h:Heap}{Q:AX→Env→Heap→Prop}
  (hw:kX fs ms B rd z c e h fun x e1 h1=>match x with|.normal=>VC fs ms B rd (.loop c) e1 h1 Q|x=>Q x e1 h1):VC fs ms B rd (.loop c) e h Q:=by
 obtain⟨x,e1,h1,hb,hk⟩:=bg hw;cases x with
 |normal=>
  obtain⟨x2,e2,h2,jf,hk2⟩:=hk;exact⟨_,_,_,.mo hb jf,hk2⟩
 |exit i=>exact⟨_,_,_,.c9 hb rfl,hk⟩
 |ret=>exact⟨_,_,_,.c9 hb rfl,hk⟩
 |panic v=>exact⟨_,_,_,.c9 hb rfl,hk⟩
theorem iX{c:AC}{e e':Env}{h h':Heap}{Q:AX→Env→Heap→Prop}{p:Nat→Nat}(hg:GC B p e h e' h')(hw:VC fs ms B rd c e' h' Q):VC fs ms B rd c e h Q:=by
 obtain⟨x,e1,h1,hb,hk⟩:=hw;exact⟨x,e1,h1,.gc hg hb,hk⟩
theorem iq{c:AC}{e:Env}{h:Heap}{Q:AX→Env→Heap→Prop}{i:Nat}{v v':AV}(bs:List Nat)(hi:Tr.get e i=some v)(hf:kz (· ∈bs) h v v')
  (hw:VC fs ms B rd c (Tr.set e i v') (gj bs h) Q):VC fs ms B rd c e h Q:=by
 obtain⟨x,e1,h1,hb,hk⟩:=hw;exact⟨x,e1,h1,.W4 hi hf hb,hk⟩
def PC(fs:Nat→Option az)(ms:Nat→String→Option Nat)(f:Nat)(args:List AV)(v:AV):Prop:=
 bn args=true∧v.cl=true∧VD fs ms f args ⟨0,.nil⟩ fun u g=>kz (fun _=>True) g u v
theorem bq{f:Nat}{args:List AV}{v:AV}(h1:bn args=true)(h2:v.cl=true)(h3:VD fs ms f args ⟨0,.nil⟩ fun u _=>u=v):PC fs ms f args v:=
 ⟨h1,h2,h3.mono fun u g hu=>hu▸.clean (hu▸h2)⟩
theorem SK:∀{v:AV},v.pl=true→v.cl=true:=by
 intro v;refine AV.rec (motive_1:=fun v=>v.pl=true→v.cl=true) (motive_2:=fun l=>kR l=true→bn l=true) ?_ ?_ ?_ ?_ ?_ ?_ ?_ ?_ ?_ ?_ ?_ ?_ ?_ ?_ ?_ ?_ ?_ ?_ ?_ ?_ ?_ ?_ v
 case refine_11=>
  intro fn first aF ih1 ih2 hp
  simp only[AV.pl,Bool.and_eq_true] at hp;simp only[AV.cl,Bool.and_eq_true];exact⟨⟨ih1 hp.1.1,ih2 hp.1.2⟩,hp.2⟩
 case refine_14=>intro t v ih hp;simp only[AV.cl];exact ih (by simpa[AV.pl] using hp)
 case refine_16=>intro cs ih hp;simp only[AV.cl];exact ih (by simpa[AV.pl] using hp)
 case refine_17=>intro cs ih hp;simp only[AV.cl];exact ih (by simpa[AV.pl] using hp)
 case refine_20=>intro b o k hp;simp[AV.pl] at hp
 case refine_21=>intro _;rfl
 case refine_22=>intro x l ih1 ih2 hp;simp only[kR,Bool.and_eq_true] at hp;simp only[bn,ih1 hp.1,ih2 hp.2];rfl
 all_goals (intros;simp_all[AV.pl,AV.cl])
theorem MH:∀{l:List AV},kR l=true→bn l=true
 |[],_=>rfl
 |x::l,hp=>by simp only[kR,Bool.and_eq_true] at hp;simp only[bn,SK hp.1,MH hp.2];rfl
theorem NK{f n:Nat}(he:Q4 fs ms Jt n (.call f [] ⟨0,.nil⟩) isTrue=true):PC fs ms f [] (.bool true):=by
 obtain⟨h1,hb⟩:=LV Ju (HP he);exact⟨rfl,rfl,.bool true,⟨0,.nil⟩,fun B=>.closed hb rfl rfl,.clean rfl⟩
theorem ai{f:Nat}{args:List AV}{h:Heap}{v:AV}{Q:AV→Heap→Prop}(hp:PC fs ms f args v)(hq:Q v h):VD fs ms f args h Q:=by
 obtain⟨h1,h2,u,g,hb,hf⟩:=hp;exact⟨v,h,fun B=>.pure (hb B) h1 hf h2,hq⟩
theorem P7{f:Nat}{args args':List AV}{h:Heap}{Q:AV→Heap→Prop}(bs:List Nat)(hf:ny (· ∈bs) h args args')(hw:VD fs ms f args' (gj bs h) Q):VD fs ms f args h Q:=by
 obtain⟨v,h1,hb,hk⟩:=hw;exact⟨v,h1,fun B=>.Rh hf (hb B),hk⟩
theorem TY{f:Nat}{args:List AV}{h:Heap}{Q:AV→Heap→Prop}(hw:VD fs ms f args h fun v h1=>∃bs v',kz (· ∈bs) h1 v v'∧Q v' (gj bs h1)):VD fs ms f args h Q:=by
 obtain⟨v,h1,hb,bs,v',hf,hq⟩:=hw;exact⟨v',_,fun B=>.Ri (hb B) hf,hq⟩
theorem HY{P:Nat→Prop}{g:Heap}{v v':AV}(f:kz P g v v'):v'.pl=true→v=v':=by
 induction f with
 |clean _=>intro _;rfl
 |agg h1 _ ih=>
  intro hp;simp only[AV.pl] at hp;rename_i cs cs' _
  congr 1
  refine List.ext_getElem? fun i=>?_;cases hx:cs'[i]? with
  |none=>rw[List.getElem?_eq_none (by rw[h1];exact List.getElem?_eq_none_iff.1 hx)]
  |some x=>
   have hl:=(List.getElem?_eq_some_iff.1 hx).1;have hy:=List.getElem?_eq_getElem (l:=cs) (i:=i) (by rw[h1];exact hl);rw[hy,ih i _ x hy hx (gZ hp hx)]
 |cC h1 _ ih=>
  intro hp;simp only[AV.pl] at hp;rename_i cs cs' _
  congr 1
  refine List.ext_getElem? fun i=>?_;cases hx:cs'[i]? with
  |none=>rw[List.getElem?_eq_none (by rw[h1];exact List.getElem?_eq_none_iff.1 hx)]
  |some x=>
   have hl:=(List.getElem?_eq_some_iff.1 hx).1;have hy:=List.getElem?_eq_getElem (l:=cs) (i:=i) (by rw[h1];exact hl);rw[hy,ih i _ x hy hx (gZ hp hx)]
 |iface _ ih=>intro hp;rw[ih (by simpa[AV.pl] using hp)]
 |aq=>intro hp;simp[AV.pl] at hp
 |sl=>intro hp;simp[AV.pl] at hp
 |ptr=>intro hp;simp[AV.pl] at hp
 |func h1 _ h2 _ ih1 ih2=>
  intro hp;simp only[AV.pl,Bool.and_eq_true] at hp;rename_i fn a a' c c' _ _
  congr 1
  ·refine List.ext_getElem? fun i=>?_;cases hx:a'[i]? with
   |none=>rw[List.getElem?_eq_none (by rw[h1];exact List.getElem?_eq_none_iff.1 hx)]
   |some x=>
    have hl:=(List.getElem?_eq_some_iff.1 hx).1;have hy:=List.getElem?_eq_getElem (l:=a) (i:=i) (by rw[h1];exact hl);rw[hy,ih1 i _ x hy hx (gZ hp.1.1 hx)]
  ·refine List.ext_getElem? fun i=>?_;cases hx:c'[i]? with
   |none=>rw[List.getElem?_eq_none (by rw[h2];exact List.getElem?_eq_none_iff.1 hx)]
   |some x=>
    have hl:=(List.getElem?_eq_some_iff.1 hx).1;have hy:=List.getElem?_eq_getElem (l:=c) (i:=i) (by rw[h2];exact hl);rw[hy,ih2 i _ x hy hx (gZ hp.1.2 hx)]
theorem ja{f:Nat}{args args':List AV}{h:Heap}{v:AV}{Q:AV→Heap→Prop}(hp:PC fs ms f args' v)(mI:v.pl=true)(hf:ny (fun _=>True) h args args')(hq:Q v h):VD fs ms f args h Q:=by
 obtain⟨h1,h2,u,g,hb,hu⟩:=hp;have:=HY hu mI;subst this;exact⟨_,h,fun B=>.view hf h1 (hb B) mI,hq⟩
def NV(s:Nat)(l:List AV)(v:AV)(g:Heap):Prop:=(l=[]∧v=.aq)∨∃b,v=.sl b 0 l.length l.length true∧g.get b=some (.cells (ah l) true s)
theorem SX{f s:Nat}{args args':List AV}{h:Heap}{l:List AV}{Q:AV→Heap→Prop}(iL:bn args'=true)(mI:kR (ah l)=true)(hd:VD fs ms f args' ⟨0,.nil⟩ (NV s l))(hf:ny (fun _=>True) h args args')
  (h0:l=[]→Q .aq h)(h1:Q (.sl h.next 0 l.length l.length true) (h.new (.cells (ah l) true s))):VD fs ms f args h Q:=by
 obtain⟨v,g,hb,hk⟩:=hd;rcases hk with⟨hl,hv⟩|⟨b,hv,hg⟩
 ·subst hv;exact⟨_,h,fun B=>.view hf iL (hb B) rfl,h0 hl⟩
 ·subst hv;exact⟨_,_,fun B=>.NR hf iL (hb B) hg mI,h1⟩
theorem ny.nil{P:Nat→Prop}{g:Heap}:ny P g [] []:=⟨rfl,fun i x y hx=>by simp at hx⟩
theorem ny.cons{P:Nat→Prop}{g:Heap}{x y:AV}{l m:List AV}(h1:kz P g x y)(h2:ny P g l m):ny P g (x::l) (y::m):=by
 refine⟨by simp[h2.1],fun i a b ha hb=>?_⟩;cases i with
 |zero=>simp at ha hb;subst ha hb;exact h1
 |succ i=>exact h2.2 i a b (by simpa using ha) (by simpa using hb)
theorem ny.clean{P:Nat→Prop}{g:Heap}{l:List AV}(h:bn l=true):ny P g l l:=
 ⟨rfl,fun i x y hx hy=>by rw[hx] at hy;cases hy;exact .clean (eS h hx)⟩
theorem kz.U7{P:Nat→Prop}{g:Heap}{l m:List AV}(h:ny P g l m):kz P g (.agg l) (.agg m):=.agg h.1 h.2
theorem kz.P1{P:Nat→Prop}{g:Heap}{l m:List AV}(h:ny P g l m):kz P g (.cC l) (.cC m):=.cC h.1 h.2
theorem kz.func'{P:Nat→Prop}{g:Heap}{fn:Fn}{a a' c c':List AV}(h:ny P g a a')(h':ny P g c c'):kz P g (.func fn a c) (.func fn a' c'):=.func h.1 h.2 h'.1 h'.2
theorem kz.ptr'{P:Nat→Prop}{g:Heap}{b o:Nat}{vs cs:List AV}{wr:Bool}{es:Nat}(hb:P b)(hg:g.get b=some (.cells vs wr es))(h:ny P g vs cs):kz P g (.ptr b o) (.fp cs o):=
 .ptr (base:=0) hb hg (by simp) (by rw[h.1];simp) fun j c y hc hy=>by rw[Nat.zero_add] at hy;exact h.2 j y c hy hc
theorem kz.row{P:Nat→Prop}{g:Heap}{b len cap k s:Nat}{op:Bool}{l vs:List AV}{wr:Bool}{es:Nat}(hb:P b)(hg:g.get b=some (.cells vs wr es))(hv:vs=ah l)(hs:aO s l=true)
  (hlen:len=l.length)(hcap:len≤cap)(hk:k≤2)(h1:1≤k→op=false)(h2:2≤k→cap=len)(iL:bn l=true):kz P g (.sl b 0 len cap op) (.fz k l):=by
 subst hv;have hf:=jQ hs;refine .sl hb hg hs hlen (by rw[hf.1];simp) hcap hk h1 h2 ?_;intro i x j c y hx hc hy;rw[Nat.zero_add] at hy;obtain⟨i',x',j',a1,a2,a3⟩:=hf.2 _ _ hy;have e1:=cN hs hx;have e2:=cN hs a1;have l1:=(List.getElem?_eq_some_iff.1 hc).1;have l2:=(List.getElem?_eq_some_iff.1 a2).1;have hsp:0<s:=by omega
 have hi:i=i':=by
  have q1:(i*s+j)/s=i:=by rw[Nat.mul_comm,Nat.mul_add_div hsp,Nat.div_eq_of_lt (by omega)];omega
  have q2:(i'*s+j')/s=i':=by rw[Nat.mul_comm,Nat.mul_add_div hsp,Nat.div_eq_of_lt (by omega)];omega
  rw[←q1,a3,q2]
 subst hi;have hj:j=j':=by omega
 subst hj;rw[hx] at a1;cases a1
 rw[hc] at a2;cases a2
 exact .clean (eS (bN (eS iL hx)) hc)
def ek(d:Nat)(l:List (Nat×AV)):Env:=sk d (kn l fun _=>none)
def hk(n:Nat)(l:List (Nat×ck)):Heap:=⟨n,l.foldr (fun p t=>Tr.set t p.1 p.2) .nil⟩
theorem pz:∀(d:Nat) (g:Nat→Option AV) (i:Nat) (v:AV),Tr.get (sk d g) i=some v→g i=some v
 |0,g,i,v,h=>by simp[sk,Tr.get] at h
 |d+1,g,i,v,h=>by
  rcases Nat.eq_zero_or_pos i with rfl|hi
  ·simpa[sk,Tr.get] using h
  ·rcases Nat.mod_two_eq_zero_or_one i with h2|h2
   ·rw[sk,Tr.eB _ _ h2 (by omega)] at h;have:=pz d _ _ v h;rw[←this]
    congr 1
    omega
   ·rw[sk,Tr.gE _ _ h2] at h;have:=pz d _ _ v h;rw[←this]
    congr 1
    omega
def fW(p:Nat→Nat)(n:Nat)(e:Env):List (Nat×AV)→Prop
 |[]=>True
 |(i,v)::l=>(∃u,Tr.get e i=some u∧oz p n v u)∧fW p n e l
theorem ng{p:Nat→Nat}{n:Nat}{e:Env}:∀{l:List (Nat×AV)},fW p n e l→∀{i:Nat} {v:AV},kn l (fun _=>none) i=some v→∃u,Tr.get e i=some u∧oz p n v u
 |[],_,i,v,hv=>by simp[kn] at hv
 |(j,w)::l,h,i,v,hv=>by
  simp only[kn] at hv;cases hb:Nat.beq i j with
  |false=>rw[hb] at hv;exact ng h.2 hv
  |true=>
   have:=Nat.eq_of_beq_eq_true hb;subst this;rw[hb] at hv;simp only[cond_true,Option.some.injEq] at hv;subst hv;exact h.1
def x9(p:Nat→Nat)(n:Nat)(h:Heap):List (Nat×ck)→Prop
 |[]=>True
 |(b,x)::l=>b<n∧(∃y,h.get (p b)=some y∧jg p n x y)∧x9 p n h l
theorem vS{n:Nat}:∀{l:List (Nat×ck)} {b:Nat} {x:ck},(hk n l).get b=some x→(b,x)∈l
 |[],b,x,h=>by simp[hk,Heap.get,Tr.get] at h
 |(c,y)::l,b,x,h=>by
  have:(Tr.set (l.foldr (fun p t=>Tr.set t p.1 p.2) .nil) c y).get b=some x:=h;rw[Tr.bl] at this;split at this
  ·rename_i he;cases this;subst he;exact List.mem_cons_self
  ·exact List.mem_cons_of_mem _ (vS (n:=n) this)
theorem sZ{p:Nat→Nat}{n:Nat}{h:Heap}:∀{l:List (Nat×ck)},x9 p n h l→∀{b:Nat} {x:ck},(b,x)∈l→b<n∧∃y,h.get (p b)=some y∧jg p n x y
 |[],_,b,x,hm=>by simp at hm
 |(c,y)::l,hl,b,x,hm=>by
  rcases List.mem_cons.1 hm with he|hm
  ·cases he;exact⟨hl.1,hl.2.1⟩
  ·exact sZ hl.2.2 hm
theorem Kl{c:AC}{e:Env}{h:Heap}{Q:AX→Env→Heap→Prop}(d:Nat)(l:List (Nat×AV))(n:Nat)(m:List (Nat×ck))(p:Nat→Nat)(hl:fW p n e l)(hm:x9 p n h m)
  (hp:∀b c,b∈m.map (·.1)→c∈m.map (·.1)→p b=p c→b=c)(tI:∀b,b<B→p b=b)(hn:B≤n)
  (hw:VC fs ms B rd c (ek d l) (hk n m) Q):VC fs ms B rd c e h Q:=by
 refine iX (p:=p) ⟨?_,?_,?_,tI,hn⟩ hw
 ·intro i v hv;exact ng hl (pz d _ i v hv)
 ·intro b x hx;exact sZ hm (vS hx)
 ·intro b c hb hc he;have mem:∀b,(hk n m).get b≠none→b∈m.map (·.1):=by
   intro b hb;cases hx:(hk n m).get b with
   |none=>exact absurd hx hb
   |some x=>exact List.mem_map.2 ⟨(b,x),vS hx,rfl⟩
  exact hp b c (mem b hb) (mem c hc) he
theorem dy{c:AC}{e:Env}{h:Heap}{Q:AX→Env→Heap→Prop}(d:Nat)(l:List (Nat×AV))(hl:fW id 0 e l)
  (hw:VC fs ms 0 rd c (ek d l) (hk 0 []) Q):VC fs ms 0 rd c e h Q:=
 Kl d l 0 [] id hl trivial (fun b c hb=>by simp at hb) (fun b hb=>rfl) (Nat.le_refl _) hw
theorem AJ{e:Env}:∀{l:List (Nat×AV)},ve e l→∀{i:Nat} {v:AV},kn l (fun _=>none) i=some v→Tr.get e i=some v
 |[],_,i,v,hv=>by simp[kn] at hv
 |(j,w)::l,h,i,v,hv=>by
  simp only[kn] at hv;cases hb:Nat.beq i j with
  |false=>rw[hb] at hv;exact AJ h.2 hv
  |true=>
   have:=Nat.eq_of_beq_eq_true hb;subst this;rw[hb] at hv;simp only[cond_true,Option.some.injEq] at hv;subst hv;exact h.1
theorem Cw{c:AC}{e:Env}{h:Heap}{Q:AX→Env→Heap→Prop}(d:Nat)(l:List (Nat×AV))(hl:ve e l)(hw:VC fs ms B rd c (ek d l) h Q):VC fs ms B rd c e h Q:=by
 obtain⟨x,e1,h1,hb,hk⟩:=hw;exact⟨x,e1,h1,.drop (fun i v hv=>AJ hl (pz d _ i v hv)) hb,hk⟩
theorem aC{p:Nat→Nat}{n:Nat}{e:Env}{i:Nat}{v:AV}{l:List (Nat×AV)}(h:Tr.get e i=some v)(hc:v.cl=true)(hl:fW p n e l):fW p n e ((i,v)::l):=⟨⟨v,h,.cl hc⟩,hl⟩
end
end Ads
end Go.Proofs.Ytecdcefacdodgaa
