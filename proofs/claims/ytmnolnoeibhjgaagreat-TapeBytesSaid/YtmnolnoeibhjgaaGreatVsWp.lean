/-
  What code must come to in Vs, as a proposition that is worked out from the code.
-/
import Derived.Test.YtmnolnoeibhjgaaGreatVsSim
import Derived.Test.YtmnolnoeibhjgaaGreatAdsEvalX
set_option linter.unusedSimpArgs false
set_option linter.unusedVariables false
namespace Go.Proofs.YtmnolnoeibhjgaaGreat
namespace Ads
abbrev jv{α:Type}(o:Option α)(k:α→Prop):Prop:=@Option.rec α (fun _=>Prop) False k o
theorem DU{α:Type}{o:Option α}{k:α→Prop}{v:α}(h:o=some v)(hk:k v):@Option.rec α (fun _=>Prop) False k o:=by rw[h];exact hk
section
variable (fs:Nat→Option aj) (ms:Nat→String→Option Nat) (B:Nat) (rd:Bool) (z:Bool)
def VC(c:AC)(e:Env)(h:Heap)(Q:AX→Env→Heap→Prop):Prop:=∃x e' h',VS fs ms B (.code rd c e h) (.code x e' h')∧Q x e' h'
def VO(l:List bp)(e:Env)(h:Heap)(Q:Env→Heap→Prop):Prop:=∃tr e' h',VS fs ms B (.ops rd l e h) (.ops tr e' h')∧Q e' h'
def VD(f:Nat)(args:List AV)(h:Heap)(Q:AV→Heap→Prop):Prop:=∃v h',(∀B,VS fs ms B (.call f args h) (.val v h'))∧Q v h'
def P0(e:Env)(r:bx)(k:AV→Prop):Prop:=match r with
 |.t i=>match Tr.get e i with
  |some v=>k v
  |none=>False
 |.c v=>k v
def qX(e:Env)(l:List bx):(List AV→Prop)→Prop:=
 List.rec (motive:=fun _=>(List AV→Prop)→Prop) (fun k=>k []) (fun r _ ih k=>P0 e r fun v=>ih fun vs=>k (v::vs)) l
def J7(h:Heap)(x:bP)(k:Nat→Heap→Prop):Prop:=match z with
 |true=>k h.next (h.new x)
 |false=>match h with
  |⟨n,m⟩=>zW m n x fun t=>k n ⟨n+1,t⟩
def Pw(h:Heap)(b:Nat)(x:bP)(k:Heap→Prop):Prop:=match z with
 |true=>k (h.set b x)
 |false=>match h with
  |⟨n,m⟩=>zW m b x fun t=>k ⟨n,t⟩
def De(h:Heap)(b o:Nat)(xs:List AV)(k:Heap→Prop):Prop:=match h.get b with
 |some (.cells vs true es)=>yZ (Nat.ble (o+xs.length) vs.length&&bz xs) (Pw z h b (.cells (Heap.splice vs o xs) true es) k) False
 |_=>False
def HD(n:Nat)(vals:List AV)(h:Heap)(k:AV→Prop):Prop:=match vals with
 |[.fp cs o]=>yZ (Nat.beq o 0&&Nat.beq n cs.length) (k (.agg cs)) (jv (rV (.bt n) [.fp cs o] h) k)
 |vals=>jv (rV (.bt n) vals h) k
def SO(o:pQ)(vals:List AV):Bool:=
 match o with
 |.bin op=>match vals with
  |.str _::_=>match op with
   |.add=>false
   |_=>true
  |_=>match op with
   |.quo|.rem|.shl|.shr=>false
   |_=>true
 |.aB _|.jD _ _|.Ba _ _ _|.CH|.slice _ _ _ _|.gN _ _|.iL _ _ _ _ _=>false
 |_=>true
def rG(o:fG)(vals:List AV)(h:Heap)(k:AV→Heap→Prop):Prop:=
 match o with
 |.p o=>match o with
  |.pick=>match vals with
   |[.bool c,a,b]=>yZ c (k a h) (k b h)
   |_=>False
  |o=>match SO o vals with
   |true=>jv (pV o vals) fun v=>k v h
   |false=>∃v,pV o vals=some v∧k v h
 |.a o=>match o with
  |.eG zs n b=>∃x f,aI (.eG zs n b) vals=some (x,f)∧J7 z h x fun b h1=>k (f b) h1
  |o=>match TJ o vals with
   |some (x,f)=>J7 z h x fun b h1=>k (f b) h1
   |none=>False
 |.r o=>match z with
  |true=>∃v,rV o vals h=some v∧k v h
  |false=>match o with
   |.bt n=>HD n vals h fun v=>k v h
   |o=>jv (rV o vals h) fun v=>k v h
 |.e o=>match z with
  |true=>∃v h1,eV o vals h=some (v,h1)∧k v h1
  |false=>match o with
   |.store n=>match vals with
    |[.ptr b o,v]=>yZ (Nat.beq v.cells.length n) (De z h b o v.cells fun h1=>k .undef h1) False
    |_=>False
   |o=>∃v h1,eV o vals h=some (v,h1)∧k v h1
 |.call=>match vals with
  |.func (.func f) first aO::args=>VD fs ms f (first++(args++aO)) h k
  |fv::args=>∃v h1,(∀B,VS fs ms B (.cK fv args h) (.val v h1))∧k v h1
  |[]=>False
 |.invoke name=>match vals with
  |.iface t x::args=>match ms t name with
   |some f=>VD fs ms f (x::args) h k
   |none=>False
  |_=>False
 |_=>False
def PK(i:bp)(ih:Env→Heap→(Env→Heap→Prop)→Prop)(e:Env)(h:Heap)(k:Env→Heap→Prop):Prop:=match i.guard with
  |none=>qX e i.args fun vals=>rG fs ms z i.op vals h fun v h1=>gE e i.dst v fun e1=>ih e1 h1 k
  |some (d,want)=>match Tr.get e d with
   |some (.bool b)=>match want with
    |true=>yZ b (qX e i.args fun vals=>rG fs ms z i.op vals h fun v h1=>gE e i.dst v fun e1=>ih e1 h1 k) (gE e i.dst .undef fun e1=>ih e1 h k)
    |false=>yZ b (gE e i.dst .undef fun e1=>ih e1 h k) (qX e i.args fun vals=>rG fs ms z i.op vals h fun v h1=>gE e i.dst v fun e1=>ih e1 h1 k)
   |some _=>gE e i.dst .undef fun e1=>ih e1 h k
   |none=>False
def FJ(l:List bp):Env→Heap→(Env→Heap→Prop)→Prop:=
 List.rec (motive:=fun _=>Env→Heap→(Env→Heap→Prop)→Prop) (fun e h k=>k e h) (fun i _ ih=>PK fs ms z i ih) l
def PM(i:bp)(ih:Env→Heap→(List aK→Env→Heap→Prop)→Prop)(e:Env)(h:Heap)(k:List aK→Env→Heap→Prop):Prop:=match i.guard with
  |none=>qX e i.args fun vals=>rG fs ms z i.op vals h fun v h1=>gE e i.dst v fun e1=>ih e1 h1 fun tr=>k (⟨h,vals,v,true⟩::tr)
  |some (d,want)=>match Tr.get e d with
   |some (.bool b)=>match want with
    |true=>yZ b (qX e i.args fun vals=>rG fs ms z i.op vals h fun v h1=>gE e i.dst v fun e1=>ih e1 h1 fun tr=>k (⟨h,vals,v,true⟩::tr)) (gE e i.dst .undef fun e1=>ih e1 h fun tr=>k (⟨h,i.args.map e.ev,.undef,false⟩::tr))
    |false=>yZ b (gE e i.dst .undef fun e1=>ih e1 h fun tr=>k (⟨h,i.args.map e.ev,.undef,false⟩::tr)) (qX e i.args fun vals=>rG fs ms z i.op vals h fun v h1=>gE e i.dst v fun e1=>ih e1 h1 fun tr=>k (⟨h,vals,v,true⟩::tr))
   |some _=>gE e i.dst .undef fun e1=>ih e1 h fun tr=>k (⟨h,i.args.map e.ev,.undef,false⟩::tr)
   |none=>False
def PL(l:List bp):Env→Heap→(List aK→Env→Heap→Prop)→Prop:=
 List.rec (motive:=fun _=>Env→Heap→(List aK→Env→Heap→Prop)→Prop) (fun e h k=>k [] e h) (fun i _ ih=>PM fs ms z i ih) l
def Dj(c:AC):Env→Heap→(AX→Env→Heap→Prop)→Prop:=
 AC.rec (motive:=fun _=>Env→Heap→(AX→Env→Heap→Prop)→Prop)
  (fun e h k=>k .normal e h)
  (fun l e h k=>FJ fs ms z l e h fun e h=>k .normal e h)
  (fun l win e h k=>match win.all (·.isEmpty) with
   |true=>FJ fs ms z l e h fun e h=>k .normal e h
   |false=>PL fs ms z l e h fun tr e1 h1=>um l win tr h1∧k .normal e1 h1)
  (fun _ _ ia ib e h k=>ia e h fun x e1 h1=>match x with
   |.normal=>ib e1 h1 k
   |x=>k x e1 h1)
  (fun c _ _ ia ib e h k=>P0 e c fun v=>match v with
   |.bool t=>yZ t (ia e h k) (ib e h k)
   |_=>False)
  (fun id _ ic e h k=>ic e h fun x e1 h1=>match x with
   |.exit i=>match Nat.beq i id with
    |true=>k .normal e1 h1
    |false=>k (.exit i) e1 h1
   |x=>k x e1 h1)
  (fun c _ e h k=>VC fs ms B rd (.loop c) e h k)
  (fun f ps a b _ _ e h k=>VC fs ms B rd (.rangeFunc f ps a b) e h k)
  (fun id e h k=>k (.exit id) e h)
  (fun e h k=>k .ret e h)
  (fun _ _ _=>False) c
end
section
variable {fs:Nat→Option aj} {ms:Nat→String→Option Nat} {B:Nat} {rd:Bool} {z:Bool}
theorem sE{α:Type}{o:Option α}{k:α→Prop}(h:jv o k):∃v,o=some v∧k v:=by
 cases o with
 |none=>exact h.elim
 |some v=>exact⟨v,rfl,h⟩
theorem td{e:Env}{r:bx}{k:AV→Prop}(h:P0 e r k):dj e [r]=true∧k (e.ev r):=by
 cases r with
 |t i=>
  simp only[P0] at h;split at h
  ·rename_i v hv;exact⟨by simp[dj,hv],by simp only[Env.ev,Cv hv];exact h⟩
  ·exact h.elim
 |c v=>exact⟨rfl,h⟩
theorem An{e:Env}{r:bx}{l:List bx}(h1:dj e [r]=true)(h2:dj e l=true):dj e (r::l)=true:=by
 cases r with
 |t i=>simp only[dj,Bool.and_true] at h1⊢;rw[h1,h2];rfl
 |c v=>exact h2
theorem fq{e:Env}:∀{l:List bx} {k:List AV→Prop},qX e l k→dj e l=true∧k (l.map e.ev)
 |[],k,h=>⟨rfl,h⟩
 |r::l,k,h=>by
  obtain⟨h1,h2⟩:=td h;obtain⟨h3,h4⟩:=fq h2;exact⟨An h1 h3,h4⟩
theorem DP{h:Heap}{x:bP}{k:Nat→Heap→Prop}(hn:J7 z h x k):k h.next (h.new x):=by
 cases z with
 |true=>exact hn
 |false=>simp only[J7,qm] at hn;exact hn
theorem KE{h:Heap}{b:Nat}{x:bP}{k:Heap→Prop}(hn:Pw z h b x k):k (h.set b x):=by
 cases z with
 |true=>exact hn
 |false=>simp only[Pw,qm] at hn;exact hn
theorem iG{t:Bool}{X Y:Prop}(h:yZ t X Y):(t=true∧X)∨(t=false∧Y):=by
 cases t with
 |true=>exact .inl ⟨rfl,h⟩
 |false=>exact .inr ⟨rfl,h⟩
theorem zZ{h:Heap}{b o:Nat}{xs:List AV}{k:Heap→Prop}(hs:De z h b o xs k):∃h1,h.cZ b o xs=some h1∧k h1:=by
 unfold De at hs;split at hs
 ·rename_i vs es hg;rcases iG hs with⟨h1,h2⟩|⟨_,h2⟩
  ·refine⟨_,?_,KE h2⟩;simp only[Heap.cZ,hg,h1,cond_true]
  ·exact h2.elim
 ·exact hs.elim
theorem wN{o:fG}{vals:List AV}{h:Heap}{k:AV→Heap→Prop}(hw:rG fs ms z o vals h k):∃v h1,(∀B,VS fs ms B (.op rd o vals h) (.val v h1))∧k v h1:=by
 cases o with
 |p o=>
  simp only[rG] at hw;split at hw
  ·split at hw
   ·rename_i c a b;rcases iG hw with⟨rfl,h2⟩|⟨rfl,h2⟩
    ·exact⟨_,_,fun _=>.B6 (v:=a) rfl,h2⟩
    ·exact⟨_,_,fun _=>.B6 (v:=b) rfl,h2⟩
   ·exact hw.elim
  ·split at hw
   ·obtain⟨v,h1,h2⟩:=sE hw;exact⟨v,h,fun _=>.B6 h1,h2⟩
   ·obtain⟨v,h1,h2⟩:=hw;exact⟨v,h,fun _=>.B6 h1,h2⟩
 |a o=>
  simp only[rG] at hw;split at hw
  ·obtain⟨x,f,h1,h2⟩:=hw;exact⟨_,_,fun _=>.Kc h1,DP h2⟩
  ·split at hw
   ·rename_i x f hv;rw[B9] at hv;exact⟨_,_,fun _=>.Kc hv,DP hw⟩
   ·exact hw.elim
 |r o=>
  simp only[rG] at hw;split at hw
  ·obtain⟨v,h3,h4⟩:=hw;exact⟨v,h,fun _=>.DT h3,h4⟩
  split at hw
  ·rename_i n;unfold HD at hw;split at hw
   ·rename_i cs o;rcases iG hw with⟨h1,h2⟩|⟨_,h2⟩
    ·simp only[Bool.and_eq_true] at h1;have e1:=Nat.eq_of_beq_eq_true h1.1;have e2:=Nat.eq_of_beq_eq_true h1.2;subst e1 e2;refine⟨_,_,fun _=>.DT (v:=.agg cs) ?_,h2⟩;simp only[rV,l1,Nat.zero_add,List.drop_zero,List.take_length];rw[Nat.ble_eq_true_of_le (Nat.le_refl _)];rfl
    ·obtain⟨v,h3,h4⟩:=sE h2;exact⟨v,h,fun _=>.DT h3,h4⟩
   ·obtain⟨v,h3,h4⟩:=sE hw;exact⟨v,h,fun _=>.DT h3,h4⟩
  ·obtain⟨v,h3,h4⟩:=sE hw;exact⟨v,h,fun _=>.DT h3,h4⟩
 |e o=>
  simp only[rG] at hw;split at hw
  ·obtain⟨v,h1,h2,h3⟩:=hw;exact⟨v,h1,fun _=>.rL h2,h3⟩
  split at hw
  ·rename_i n;split at hw
   ·rename_i b o v;rcases iG hw with⟨h1,h2⟩|⟨_,h2⟩
    ·obtain⟨g1,h3,h4⟩:=zZ h2;refine⟨_,_,fun _=>.rL (v:=.undef) (h1:=g1) ?_,h4⟩;show eI (.store n) [.ptr b o,v] h=_;simp only[eI,h1,cond_true,h3,Option.map_some]
    ·exact h2.elim
   ·exact hw.elim
  ·obtain⟨v,h1,h2,h3⟩:=hw;exact⟨v,h1,fun _=>.rL h2,h3⟩
 |call=>
  simp only[rG] at hw;split at hw
  ·obtain⟨v,h1,hb,hk⟩:=hw;exact⟨v,h1,fun B=>.jH (.cK (hb B)),hk⟩
  ·obtain⟨v,h1,hb,hk⟩:=hw;exact⟨v,h1,fun B=>.jH (hb B),hk⟩
  ·exact hw.elim
 |invoke name=>
  simp only[rG] at hw;split at hw
  ·split at hw
   ·rename_i f hf;obtain⟨v,h1,hb,hk⟩:=hw;exact⟨v,h1,fun B=>.jX hf (hb B),hk⟩
   ·exact hw.elim
  ·exact hw.elim
 |panic=>exact hw.elim
 |bad=>exact hw.elim
theorem dY:∀{l:List bp} {e:Env} {h:Heap} {k:Env→Heap→Prop},FJ fs ms z l e h k→VO fs ms B rd l e h k
 |[],e,h,k,hw=>⟨_,_,_,.nil,hw⟩
 |i::l,e,h,k,hw=>by
  have gb:cV i e=some true→(qX e i.args fun vals=>rG fs ms z i.op vals h fun v h1=>gE e i.dst v fun e1=>FJ fs ms z l e1 h1 k)→VO fs ms B rd (i::l) e h k:=by
   intro qA hw;obtain⟨ha,hw⟩:=fq hw;obtain⟨v,h1,hb,hk⟩:=wN (rd:=rd) hw;rw[fy] at hk;obtain⟨tr,e',h',hl,hk⟩:=dY hk;exact⟨_,_,_,.on qA ha (hb B) hl,hk⟩
  have hoff:cV i e=some false→(gE e i.dst .undef fun e1=>FJ fs ms z l e1 h k)→VO fs ms B rd (i::l) e h k:=by
   intro qA hk;rw[fy] at hk;obtain⟨tr,e',h',hl,hk⟩:=dY hk;exact⟨_,_,_,.off qA hl,hk⟩
  replace hw:PK fs ms z i (FJ fs ms z l) e h k:=hw;unfold PK at hw;split at hw
  ·rename_i hg;exact gb (by simp[cV,hg]) hw
  ·rename_i d want hg;split at hw
   ·rename_i b hb;split at hw
    ·rcases iG hw with⟨rfl,h2⟩|⟨rfl,h2⟩
     ·exact gb (by simp[cV,hg,hb]) h2
     ·exact hoff (by simp[cV,hg,hb]) h2
    ·rcases iG hw with⟨rfl,h2⟩|⟨rfl,h2⟩
     ·exact hoff (by simp[cV,hg,hb]) h2
     ·exact gb (by simp[cV,hg,hb]) h2
   ·rename_i v hne hv;refine hoff ?_ hw;cases v with
    |bool b=>exact absurd rfl (hne b)
    |_=>simp only[cV,hg,hv]
   ·exact hw.elim
theorem qq:∀{l:List bp} {e:Env} {h:Heap} {k:List aK→Env→Heap→Prop},PL fs ms z l e h k→∃tr e' h',VS fs ms B (.ops rd l e h) (.ops tr e' h')∧k tr e' h'
 |[],e,h,k,hw=>⟨_,_,_,.nil,hw⟩
 |i::l,e,h,k,hw=>by
  have gb:cV i e=some true→(qX e i.args fun vals=>rG fs ms z i.op vals h fun v h1=>gE e i.dst v fun e1=>PL fs ms z l e1 h1 fun tr=>k (⟨h,vals,v,true⟩::tr))→∃tr e' h',VS fs ms B (.ops rd (i::l) e h) (.ops tr e' h')∧k tr e' h':=by
   intro qA hw;obtain⟨ha,hw⟩:=fq hw;obtain⟨v,h1,hb,hk⟩:=wN (rd:=rd) hw;rw[fy] at hk;obtain⟨tr,e',h',hl,hk⟩:=qq hk;exact⟨_,_,_,.on qA ha (hb B) hl,hk⟩
  have hoff:cV i e=some false→(gE e i.dst .undef fun e1=>PL fs ms z l e1 h fun tr=>k (⟨h,i.args.map e.ev,.undef,false⟩::tr))→∃tr e' h',VS fs ms B (.ops rd (i::l) e h) (.ops tr e' h')∧k tr e' h':=by
   intro qA hk;rw[fy] at hk;obtain⟨tr,e',h',hl,hk⟩:=qq hk;exact⟨_,_,_,.off qA hl,hk⟩
  replace hw:PM fs ms z i (PL fs ms z l) e h k:=hw;unfold PM at hw;split at hw
  ·rename_i hg;exact gb (by simp[cV,hg]) hw
  ·rename_i d want hg;split at hw
   ·rename_i b hb;split at hw
    ·rcases iG hw with⟨rfl,h2⟩|⟨rfl,h2⟩
     ·exact gb (by simp[cV,hg,hb]) h2
     ·exact hoff (by simp[cV,hg,hb]) h2
    ·rcases iG hw with⟨rfl,h2⟩|⟨rfl,h2⟩
     ·exact hoff (by simp[cV,hg,hb]) h2
     ·exact gb (by simp[cV,hg,hb]) h2
   ·rename_i v hne hv;refine hoff ?_ hw;cases v with
    |bool b=>exact absurd rfl (hne b)
    |_=>simp only[cV,hg,hv]
   ·exact hw.elim
theorem aa:∀{c:AC} {e:Env} {h:Heap} {k:AX→Env→Heap→Prop},Dj fs ms B rd z c e h k→VC fs ms B rd c e h k
 |.skip,e,h,k,hw=>⟨_,_,_,.skip,hw⟩
 |.ops l,e,h,k,hw=>by
  obtain⟨tr,e',h',hb,hk⟩:=dY (B:=B) (rd:=rd) (show FJ fs ms z l e h _ from hw);exact⟨_,_,_,.ops hb,hk⟩
 |.bI l win,e,h,k,hw=>by
  replace hw:match win.all (·.isEmpty) with
   |true=>FJ fs ms z l e h fun e h=>k .normal e h
   |false=>PL fs ms z l e h fun tr e1 h1=>um l win tr h1∧k .normal e1 h1:=hw
  split at hw
  ·rename_i tC;obtain⟨tr,e',h',hb,hk⟩:=dY (B:=B) (rd:=rd) hw;exact⟨_,_,_,.bI tC hb,hk⟩
  ·obtain⟨tr,e',h',hb,hk⟩:=qq (B:=B) (rd:=rd) hw;exact⟨_,_,_,.Gi hk.1 hb,hk.2⟩
 |.seq a b,e,h,k,hw=>by
  obtain⟨x,e1,h1,hb,hk⟩:=aa (show Dj fs ms B rd z a e h _ from hw);cases x with
  |normal=>
   obtain⟨x2,e2,h2,gn,hk2⟩:=aa (show Dj fs ms B rd z b e1 h1 k from hk);exact⟨_,_,_,.wC hb gn,hk2⟩
  |exit i=>exact⟨_,_,_,.oz hb rfl,hk⟩
  |ret=>exact⟨_,_,_,.oz hb rfl,hk⟩
  |panic v=>exact⟨_,_,_,.oz hb rfl,hk⟩
 |.cond c a b,e,h,k,hw=>by
  obtain⟨ha,hw⟩:=td (show P0 e c _ from hw);split at hw
  ·rename_i t ht;rcases iG hw with⟨rfl,h2⟩|⟨rfl,h2⟩
   ·obtain⟨x,e1,h1,hb,hk⟩:=aa h2;exact⟨_,_,_,.cond ha ht hb,hk⟩
   ·obtain⟨x,e1,h1,hb,hk⟩:=aa h2;exact⟨_,_,_,.cond ha ht hb,hk⟩
  ·exact hw.elim
 |.block id c,e,h,k,hw=>by
  obtain⟨x,e1,h1,hb,hk⟩:=aa (show Dj fs ms B rd z c e h _ from hw);cases x with
  |exit i=>
   simp only at hk;split at hk
   ·rename_i K7;have:=Nat.eq_of_beq_eq_true K7;subst this;exact⟨_,_,_,.nw hb,hk⟩
   ·rename_i K7;refine⟨_,_,_,.eR hb ?_,hk⟩;intro j hj hji;simp only[AX.exit.injEq] at hj;subst hj hji;simp at K7
  |normal=>exact⟨_,_,_,.eR hb (by simp),hk⟩
  |ret=>exact⟨_,_,_,.eR hb (by simp),hk⟩
  |panic v=>exact⟨_,_,_,.eR hb (by simp),hk⟩
 |.loop c,e,h,k,hw=>hw
 |.rangeFunc f ps a b,e,h,k,hw=>hw
 |.exit id,e,h,k,hw=>⟨_,_,_,.exit,hw⟩
 |.ret,e,h,k,hw=>⟨_,_,_,.ret,hw⟩
 |.bad,e,h,k,hw=>hw.elim
def y7(rs:List qv)(Q:AV→Heap→Prop):AX→Env→Heap→Prop:=fun x e h=>match x with
 |.normal|.ret=>@Option.rec (List AV) (fun _=>Prop) False (fun vs=>match vs with
   |[v]=>Q v h
   |vs=>Q (.dO vs) h) (er e h rs)
 |_=>False
theorem Eo{f:Nat}{af:aj}{args:List AV}{h:Heap}{Q:AV→Heap→Prop}(hf:fs f=some af)(hlen:args.length≤af.ntmps)
  (hw:VC fs ms h.next false af.body (Env.start af.ntmps args) h (y7 af.results Q)):VD fs ms f args h Q:=by
 obtain⟨x,e1,h1,hb,hk⟩:=hw;have hx:x=.normal∨x=.ret:=by
  cases x with
  |normal=>exact .inl rfl
  |ret=>exact .inr rfl
  |exit i=>exact hk.elim
  |panic v=>exact hk.elim
 have hk':∃vs,er e1 h1 af.results=some vs∧Q (cB vs) h1:=by
  rcases hx with rfl|rfl<;>
  ·simp only[y7] at hk;cases hvs:er e1 h1 af.results with
   |some vs=>
    rw[hvs] at hk;refine⟨vs,rfl,?_⟩;rcases vs with _|⟨v,_|⟨u,r⟩⟩<;>exact hk
   |none=>
    rw[hvs] at hk;exact hk.elim
 obtain⟨vs,h2,h3⟩:=hk';exact⟨_,_,fun B=>.call hf hlen hb hx h2,h3⟩
theorem bN{f:Nat}{af:aj}{args:List AV}{h:Heap}{Q:AV→Heap→Prop}(z:Bool)(hf:fs f=some af)(hlen:args.length≤af.ntmps)
  (hw:lK af.ntmps args fun e=>Dj fs ms h.next false z af.body e h (y7 af.results Q)):VD fs ms f args h Q:=by
 rw[iY] at hw;exact Eo hf hlen (aa hw)
theorem VD.mono{f:Nat}{args:List AV}{h:Heap}{Q Q':AV→Heap→Prop}(hc:VD fs ms f args h Q)(hq:∀v h',Q v h'→Q' v h'):VD fs ms f args h Q':=by
 obtain⟨v,h',hb,hk⟩:=hc;exact⟨v,h',hb,hq v h' hk⟩
theorem VC.mono{c:AC}{e:Env}{h:Heap}{Q Q':AX→Env→Heap→Prop}(hc:VC fs ms B rd c e h Q)(hq:∀x e' h',Q x e' h'→Q' x e' h'):VC fs ms B rd c e h Q':=by
 obtain⟨x,e',h',hb,hk⟩:=hc;exact⟨x,e',h',hb,hq x e' h' hk⟩
theorem Uw{c:AC}{e:Env}{h:Heap}{Q:AX→Env→Heap→Prop}
  (hw:Dj fs ms B rd z c e h fun x e1 h1=>match x with|.normal=>VC fs ms B rd (.loop c) e1 h1 Q|x=>Q x e1 h1):VC fs ms B rd (.loop c) e h Q:=by
 obtain⟨x,e1,h1,hb,hk⟩:=aa hw;cases x with
 |normal=>
  obtain⟨x2,e2,h2,gn,hk2⟩:=hk;exact⟨_,_,_,.lE hb gn,hk2⟩
 |exit i=>exact⟨_,_,_,.cT hb rfl,hk⟩
 |ret=>exact⟨_,_,_,.cT hb rfl,hk⟩
 |panic v=>exact⟨_,_,_,.cT hb rfl,hk⟩
theorem BK{c:AC}{e e':Env}{h h':Heap}{Q:AX→Env→Heap→Prop}{p:Nat→Nat}(hg:GC B p e h e' h')(hw:VC fs ms B rd c e' h' Q):VC fs ms B rd c e h Q:=by
 obtain⟨x,e1,h1,hb,hk⟩:=hw;exact⟨x,e1,h1,.gc hg hb,hk⟩
theorem tP{c:AC}{e:Env}{h:Heap}{Q:AX→Env→Heap→Prop}{i:Nat}{v v':AV}(bs:List Nat)(hi:Tr.get e i=some v)(hf:jr (· ∈bs) h v v')
  (hw:VC fs ms B rd c (Tr.set e i v') (cg bs h) Q):VC fs ms B rd c e h Q:=by
 obtain⟨x,e1,h1,hb,hk⟩:=hw;exact⟨x,e1,h1,.BX hi hf hb,hk⟩
def PC(fs:Nat→Option aj)(ms:Nat→String→Option Nat)(f:Nat)(args:List AV)(v:AV):Prop:=
 e9 args=true∧v.cl=true∧VD fs ms f args ⟨0,.nil⟩ fun u g=>jr (fun _=>True) g u v
theorem mb{f:Nat}{args:List AV}{v:AV}(h1:e9 args=true)(h2:v.cl=true)(h3:VD fs ms f args ⟨0,.nil⟩ fun u _=>u=v):PC fs ms f args v:=
 ⟨h1,h2,h3.mono fun u g hu=>hu▸.clean (hu▸h2)⟩
theorem SC:∀{v:AV},v.pl=true→v.cl=true:=by
 intro v;refine AV.rec (motive_1:=fun v=>v.pl=true→v.cl=true) (motive_2:=fun l=>kS l=true→e9 l=true) ?_ ?_ ?_ ?_ ?_ ?_ ?_ ?_ ?_ ?_ ?_ ?_ ?_ ?_ ?_ ?_ ?_ ?_ ?_ ?_ ?_ ?_ v
 case refine_11=>
  intro fn first aO ih1 ih2 hp
  simp only[AV.pl,Bool.and_eq_true] at hp;simp only[AV.cl,Bool.and_eq_true];exact⟨⟨ih1 hp.1.1,ih2 hp.1.2⟩,hp.2⟩
 case refine_14=>intro t v ih hp;simp only[AV.cl];exact ih (by simpa[AV.pl] using hp)
 case refine_16=>intro cs ih hp;simp only[AV.cl];exact ih (by simpa[AV.pl] using hp)
 case refine_17=>intro cs ih hp;simp only[AV.cl];exact ih (by simpa[AV.pl] using hp)
 case refine_20=>intro b o k hp;simp[AV.pl] at hp
 case refine_21=>intro _;rfl
 case refine_22=>intro x l ih1 ih2 hp;simp only[kS,Bool.and_eq_true] at hp;simp only[e9,ih1 hp.1,ih2 hp.2];rfl
 all_goals (intros;simp_all[AV.pl,AV.cl])
theorem Kk:∀{l:List AV},kS l=true→e9 l=true
 |[],_=>rfl
 |x::l,hp=>by simp only[kS,Bool.and_eq_true] at hp;simp only[e9,SC hp.1,Kk hp.2];rfl
theorem ZR{f n:Nat}(he:EN fs ms HL n (.call f [] ⟨0,.nil⟩) isTrue=true):PC fs ms f [] (.bool true):=by
 obtain⟨h1,hb⟩:=Dy HM (oR he);exact⟨rfl,rfl,.bool true,⟨0,.nil⟩,fun B=>.closed hb rfl rfl,.clean rfl⟩
theorem cC{f:Nat}{args:List AV}{h:Heap}{v:AV}{Q:AV→Heap→Prop}(hp:PC fs ms f args v)(hq:Q v h):VD fs ms f args h Q:=by
 obtain⟨h1,h2,u,g,hb,hf⟩:=hp;exact⟨v,h,fun B=>.pure (hb B) h1 hf h2,hq⟩
theorem Di{f:Nat}{args args':List AV}{h:Heap}{Q:AV→Heap→Prop}(bs:List Nat)(hf:nh (· ∈bs) h args args')(hw:VD fs ms f args' (cg bs h) Q):VD fs ms f args h Q:=by
 obtain⟨v,h1,hb,hk⟩:=hw;exact⟨v,h1,fun B=>.Ra hf (hb B),hk⟩
theorem me{f:Nat}{args:List AV}{h:Heap}{Q:AV→Heap→Prop}(hw:VD fs ms f args h fun v h1=>∃bs v',jr (· ∈bs) h1 v v'∧Q v' (cg bs h1)):VD fs ms f args h Q:=by
 obtain⟨v,h1,hb,bs,v',hf,hq⟩:=hw;exact⟨v',_,fun B=>.Rc (hb B) hf,hq⟩
theorem GF{P:Nat→Prop}{g:Heap}{v v':AV}(f:jr P g v v'):v'.pl=true→v=v':=by
 induction f with
 |clean _=>intro _;rfl
 |agg h1 _ ih=>
  intro hp;simp only[AV.pl] at hp;rename_i cs cs' _
  congr 1
  refine List.ext_getElem? fun i=>?_;cases hx:cs'[i]? with
  |none=>rw[List.getElem?_eq_none (by rw[h1];exact List.getElem?_eq_none_iff.1 hx)]
  |some x=>
   have hl:=(List.getElem?_eq_some_iff.1 hx).1;have hy:=List.getElem?_eq_getElem (l:=cs) (i:=i) (by rw[h1];exact hl);rw[hy,ih i _ x hy hx (iN hp hx)]
 |dO h1 _ ih=>
  intro hp;simp only[AV.pl] at hp;rename_i cs cs' _
  congr 1
  refine List.ext_getElem? fun i=>?_;cases hx:cs'[i]? with
  |none=>rw[List.getElem?_eq_none (by rw[h1];exact List.getElem?_eq_none_iff.1 hx)]
  |some x=>
   have hl:=(List.getElem?_eq_some_iff.1 hx).1;have hy:=List.getElem?_eq_getElem (l:=cs) (i:=i) (by rw[h1];exact hl);rw[hy,ih i _ x hy hx (iN hp hx)]
 |iface _ ih=>intro hp;rw[ih (by simpa[AV.pl] using hp)]
 |az=>intro hp;simp[AV.pl] at hp
 |sl=>intro hp;simp[AV.pl] at hp
 |ptr=>intro hp;simp[AV.pl] at hp
 |func h1 _ h2 _ ih1 ih2=>
  intro hp;simp only[AV.pl,Bool.and_eq_true] at hp;rename_i fn a a' c c' _ _
  congr 1
  ·refine List.ext_getElem? fun i=>?_;cases hx:a'[i]? with
   |none=>rw[List.getElem?_eq_none (by rw[h1];exact List.getElem?_eq_none_iff.1 hx)]
   |some x=>
    have hl:=(List.getElem?_eq_some_iff.1 hx).1;have hy:=List.getElem?_eq_getElem (l:=a) (i:=i) (by rw[h1];exact hl);rw[hy,ih1 i _ x hy hx (iN hp.1.1 hx)]
  ·refine List.ext_getElem? fun i=>?_;cases hx:c'[i]? with
   |none=>rw[List.getElem?_eq_none (by rw[h2];exact List.getElem?_eq_none_iff.1 hx)]
   |some x=>
    have hl:=(List.getElem?_eq_some_iff.1 hx).1;have hy:=List.getElem?_eq_getElem (l:=c) (i:=i) (by rw[h2];exact hl);rw[hy,ih2 i _ x hy hx (iN hp.1.2 hx)]
theorem z6{f:Nat}{args args':List AV}{h:Heap}{v:AV}{Q:AV→Heap→Prop}(hp:PC fs ms f args' v)(jn:v.pl=true)(hf:nh (fun _=>True) h args args')(hq:Q v h):VD fs ms f args h Q:=by
 obtain⟨h1,h2,u,g,hb,hu⟩:=hp;have:=GF hu jn;subst this;exact⟨_,h,fun B=>.view hf h1 (hb B) jn,hq⟩
def Nv(s:Nat)(l:List AV)(v:AV)(g:Heap):Prop:=(l=[]∧v=.az)∨∃b,v=.sl b 0 l.length l.length true∧g.get b=some (.cells (ak l) true s)
theorem SW{f s:Nat}{args args':List AV}{h:Heap}{l:List AV}{Q:AV→Heap→Prop}(ju:e9 args'=true)(jn:kS (ak l)=true)(hd:VD fs ms f args' ⟨0,.nil⟩ (Nv s l))(hf:nh (fun _=>True) h args args')
  (h0:l=[]→Q .az h)(h1:Q (.sl h.next 0 l.length l.length true) (h.new (.cells (ak l) true s))):VD fs ms f args h Q:=by
 obtain⟨v,g,hb,hk⟩:=hd;rcases hk with⟨hl,hv⟩|⟨b,hv,hg⟩
 ·subst hv;exact⟨_,h,fun B=>.view hf ju (hb B) rfl,h0 hl⟩
 ·subst hv;exact⟨_,_,fun B=>.Lx hf ju (hb B) hg jn,h1⟩
theorem nh.nil{P:Nat→Prop}{g:Heap}:nh P g [] []:=⟨rfl,fun i x y hx=>by simp at hx⟩
theorem nh.cons{P:Nat→Prop}{g:Heap}{x y:AV}{l m:List AV}(h1:jr P g x y)(h2:nh P g l m):nh P g (x::l) (y::m):=by
 refine⟨by simp[h2.1],fun i a b ha hb=>?_⟩;cases i with
 |zero=>simp at ha hb;subst ha hb;exact h1
 |succ i=>exact h2.2 i a b (by simpa using ha) (by simpa using hb)
theorem nh.clean{P:Nat→Prop}{g:Heap}{l:List AV}(h:e9 l=true):nh P g l l:=
 ⟨rfl,fun i x y hx hy=>by rw[hx] at hy;cases hy;exact .clean (fm h hx)⟩
theorem jr.FR{P:Nat→Prop}{g:Heap}{l m:List AV}(h:nh P g l m):jr P g (.agg l) (.agg m):=.agg h.1 h.2
theorem jr.PA{P:Nat→Prop}{g:Heap}{l m:List AV}(h:nh P g l m):jr P g (.dO l) (.dO m):=.dO h.1 h.2
theorem jr.func'{P:Nat→Prop}{g:Heap}{fn:Fn}{a a' c c':List AV}(h:nh P g a a')(h':nh P g c c'):jr P g (.func fn a c) (.func fn a' c'):=.func h.1 h.2 h'.1 h'.2
theorem jr.ptr'{P:Nat→Prop}{g:Heap}{b o:Nat}{vs cs:List AV}{wr:Bool}{es:Nat}(hb:P b)(hg:g.get b=some (.cells vs wr es))(h:nh P g vs cs):jr P g (.ptr b o) (.fp cs o):=
 .ptr (base:=0) hb hg (by simp) (by rw[h.1];simp) fun j c y hc hy=>by rw[Nat.zero_add] at hy;exact h.2 j y c hy hc
theorem jr.row{P:Nat→Prop}{g:Heap}{b len cap k s:Nat}{op:Bool}{l vs:List AV}{wr:Bool}{es:Nat}(hb:P b)(hg:g.get b=some (.cells vs wr es))(hv:vs=ak l)(hs:aL s l=true)
  (hlen:len=l.length)(hcap:len≤cap)(hk:k≤2)(h1:1≤k→op=false)(h2:2≤k→cap=len)(ju:e9 l=true):jr P g (.sl b 0 len cap op) (.fz k l):=by
 subst hv;have hf:=jR hs;refine .sl hb hg hs hlen (by rw[hf.1];simp) hcap hk h1 h2 ?_;intro i x j c y hx hc hy;rw[Nat.zero_add] at hy;obtain⟨i',x',j',a1,a2,a3⟩:=hf.2 _ _ hy;have e1:=cX hs hx;have e2:=cX hs a1;have l1:=(List.getElem?_eq_some_iff.1 hc).1;have l2:=(List.getElem?_eq_some_iff.1 a2).1;have hsp:0<s:=by omega
 have hi:i=i':=by
  have q1:(i*s+j)/s=i:=by rw[Nat.mul_comm,Nat.mul_add_div hsp,Nat.div_eq_of_lt (by omega)];omega
  have q2:(i'*s+j')/s=i':=by rw[Nat.mul_comm,Nat.mul_add_div hsp,Nat.div_eq_of_lt (by omega)];omega
  rw[←q1,a3,q2]
 subst hi;have hj:j=j':=by omega
 subst hj;rw[hx] at a1;cases a1
 rw[hc] at a2;cases a2
 exact .clean (fm (gB (fm ju hx)) hc)
def ek(d:Nat)(l:List (Nat×AV)):Env:=sk d (kn l fun _=>none)
def hk(n:Nat)(l:List (Nat×bP)):Heap:=⟨n,l.foldr (fun p t=>Tr.set t p.1 p.2) .nil⟩
theorem pz:∀(d:Nat) (g:Nat→Option AV) (i:Nat) (v:AV),Tr.get (sk d g) i=some v→g i=some v
 |0,g,i,v,h=>by simp[sk,Tr.get] at h
 |d+1,g,i,v,h=>by
  rcases Nat.eq_zero_or_pos i with rfl|hi
  ·simpa[sk,Tr.get] using h
  ·rcases Nat.mod_two_eq_zero_or_one i with h2|h2
   ·rw[sk,Tr.eT _ _ h2 (by omega)] at h;have:=pz d _ _ v h;rw[←this]
    congr 1
    omega
   ·rw[sk,Tr.gZ _ _ h2] at h;have:=pz d _ _ v h;rw[←this]
    congr 1
    omega
def iS(p:Nat→Nat)(n:Nat)(e:Env):List (Nat×AV)→Prop
 |[]=>True
 |(i,v)::l=>(∃u,Tr.get e i=some u∧qQ p n v u)∧iS p n e l
theorem m0{p:Nat→Nat}{n:Nat}{e:Env}:∀{l:List (Nat×AV)},iS p n e l→∀{i:Nat} {v:AV},kn l (fun _=>none) i=some v→∃u,Tr.get e i=some u∧qQ p n v u
 |[],_,i,v,hv=>by simp[kn] at hv
 |(j,w)::l,h,i,v,hv=>by
  simp only[kn] at hv;cases hb:Nat.beq i j with
  |false=>rw[hb] at hv;exact m0 h.2 hv
  |true=>
   have:=Nat.eq_of_beq_eq_true hb;subst this;rw[hb] at hv;simp only[cond_true,Option.some.injEq] at hv;subst hv;exact h.1
def xD(p:Nat→Nat)(n:Nat)(h:Heap):List (Nat×bP)→Prop
 |[]=>True
 |(b,x)::l=>b<n∧(∃y,h.get (p b)=some y∧j7 p n x y)∧xD p n h l
theorem vG{n:Nat}:∀{l:List (Nat×bP)} {b:Nat} {x:bP},(hk n l).get b=some x→(b,x)∈l
 |[],b,x,h=>by simp[hk,Heap.get,Tr.get] at h
 |(c,y)::l,b,x,h=>by
  have:(Tr.set (l.foldr (fun p t=>Tr.set t p.1 p.2) .nil) c y).get b=some x:=h;rw[Tr.aT] at this;split at this
  ·rename_i he;cases this;subst he;exact List.mem_cons_self
  ·exact List.mem_cons_of_mem _ (vG (n:=n) this)
theorem sZ{p:Nat→Nat}{n:Nat}{h:Heap}:∀{l:List (Nat×bP)},xD p n h l→∀{b:Nat} {x:bP},(b,x)∈l→b<n∧∃y,h.get (p b)=some y∧j7 p n x y
 |[],_,b,x,hm=>by simp at hm
 |(c,y)::l,hl,b,x,hm=>by
  rcases List.mem_cons.1 hm with he|hm
  ·cases he;exact⟨hl.1,hl.2.1⟩
  ·exact sZ hl.2.2 hm
theorem Lw{c:AC}{e:Env}{h:Heap}{Q:AX→Env→Heap→Prop}(d:Nat)(l:List (Nat×AV))(n:Nat)(m:List (Nat×bP))(p:Nat→Nat)(hl:iS p n e l)(hm:xD p n h m)
  (hp:∀b c,b∈m.map (·.1)→c∈m.map (·.1)→p b=p c→b=c)(tw:∀b,b<B→p b=b)(hn:B≤n)
  (hw:VC fs ms B rd c (ek d l) (hk n m) Q):VC fs ms B rd c e h Q:=by
 refine BK (p:=p) ⟨?_,?_,?_,tw,hn⟩ hw
 ·intro i v hv;exact m0 hl (pz d _ i v hv)
 ·intro b x hx;exact sZ hm (vG hx)
 ·intro b c hb hc he;have mem:∀b,(hk n m).get b≠none→b∈m.map (·.1):=by
   intro b hb;cases hx:(hk n m).get b with
   |none=>exact absurd hx hb
   |some x=>exact List.mem_map.2 ⟨(b,x),vG hx,rfl⟩
  exact hp b c (mem b hb) (mem c hc) he
theorem z5{c:AC}{e:Env}{h:Heap}{Q:AX→Env→Heap→Prop}(d:Nat)(l:List (Nat×AV))(hl:iS id 0 e l)
  (hw:VC fs ms 0 rd c (ek d l) (hk 0 []) Q):VC fs ms 0 rd c e h Q:=
 Lw d l 0 [] id hl trivial (fun b c hb=>by simp at hb) (fun b hb=>rfl) (Nat.le_refl _) hw
theorem Ah{e:Env}:∀{l:List (Nat×AV)},bQ e l→∀{i:Nat} {v:AV},kn l (fun _=>none) i=some v→Tr.get e i=some v
 |[],_,i,v,hv=>by simp[kn] at hv
 |(j,w)::l,h,i,v,hv=>by
  simp only[kn] at hv;cases hb:Nat.beq i j with
  |false=>rw[hb] at hv;exact Ah h.2 hv
  |true=>
   have:=Nat.eq_of_beq_eq_true hb;subst this;rw[hb] at hv;simp only[cond_true,Option.some.injEq] at hv;subst hv;exact h.1
theorem ay{c:AC}{e:Env}{h:Heap}{Q:AX→Env→Heap→Prop}(d:Nat)(l:List (Nat×AV))(hl:bQ e l)(hw:VC fs ms B rd c (ek d l) h Q):VC fs ms B rd c e h Q:=by
 obtain⟨x,e1,h1,hb,hk⟩:=hw;exact⟨x,e1,h1,.drop (fun i v hv=>Ah hl (pz d _ i v hv)) hb,hk⟩
theorem mZ{p:Nat→Nat}{n:Nat}{e:Env}{i:Nat}{v:AV}{l:List (Nat×AV)}(h:Tr.get e i=some v)(hc:v.cl=true)(hl:iS p n e l):iS p n e ((i,v)::l):=⟨⟨v,h,.cl hc⟩,hl⟩
end
end Ads
end Go.Proofs.YtmnolnoeibhjgaaGreat
