/-
  Calls that are known, as a table: each one on a part of a heap.
-/
import Derived.Test.YtmnolnoeibhjgaaGreatVsWp
set_option linter.unusedSimpArgs false
set_option linter.unusedVariables false
namespace Go.Proofs.YtmnolnoeibhjgaaGreat
namespace Ads
def DR(n:Nat)(l:List (Nat×bP)):Heap:=⟨n,l.foldr (fun p t=>Tr.set t p.1 p.2) .nil⟩
def iw:List (Nat×bP)→Nat→Option bP
 |[],_=>none
 |p::l,b=>cond (Nat.beq b p.1) (some p.2) (iw l b)
theorem kF(n:Nat):∀(l:List (Nat×bP)) (b:Nat),(DR n l).get b=iw l b
 |[],b=>by simp[DR,Heap.get,Tr.get,iw]
 |p::l,b=>by
  have ih:=kF n l b;show(Tr.set (l.foldr (fun p t=>Tr.set t p.1 p.2) .nil) p.1 p.2).get b=_;rw[Tr.aT];show _=cond (Nat.beq b p.1) (some p.2) (iw l b);cases hb:Nat.beq b p.1 with
  |true=>rw[if_pos (Nat.eq_of_beq_eq_true hb)];rfl
  |false=>rw[if_neg (by intro e;rw[e,Nat.beq_refl] at hb;simp at hb)];exact ih
def yG:List (AV×AV)→List (AV×AV)→Bool
 |[],[]=>true
 |p::l,q::m=>AV.same p.1 q.1&&AV.same p.2 q.2&&yG l m
 |_,_=>false
theorem BB:∀{l m:List (AV×AV)},yG l m=true→l=m
 |[],[],_=>rfl
 |p::l,q::m,h=>by
  simp only[yG,Bool.and_eq_true] at h;rw[Prod.ext (AV.kI h.1.1) (AV.kI h.1.2),BB h.2]
 |[],_::_,h=>by simp[yG] at h
 |_::_,[],h=>by simp[yG] at h
def yF:List Nat→List Nat→Bool
 |[],[]=>true
 |a::l,b::m=>Nat.beq a b&&yF l m
 |_,_=>false
theorem BA:∀{l m:List Nat},yF l m=true→l=m
 |[],[],_=>rfl
 |a::l,b::m,h=>by
  simp only[yF,Bool.and_eq_true] at h;rw[Nat.eq_of_beq_eq_true h.1,BA h.2]
 |[],_::_,h=>by simp[yF] at h
 |_::_,[],h=>by simp[yF] at h
def bP.same:bP→bP→Bool
 |.cells a w e,.cells b x f=>qK a b&&(cond w x !x)&&Nat.beq e f
 |.map a bs c,.map b bs' c'=>yG a b&&yF bs bs'&&Nat.beq c c'
 |_,_=>false
theorem bP.kI{x y:bP}(h:bP.same x y=true):x=y:=by
 cases x<;>cases y<;>simp only[bP.same,Bool.and_eq_true,Bool.false_eq_true] at h
 ·rename_i a w e b x f;obtain⟨⟨h1,h2⟩,h3⟩:=h;rw[m5 h1,Nat.eq_of_beq_eq_true h3];cases w<;>cases x<;>simp at h2<;>rfl
 ·obtain⟨⟨h1,h2⟩,h3⟩:=h;rw[BB h1,BA h2,Nat.eq_of_beq_eq_true h3]
def vM(x:Option bP)(y:bP):Bool:=match x with
 |some x=>bP.same x y
 |none=>false
theorem oW{x:Option bP}{y:bP}(h:vM x y=true):x=some y:=by
 cases x with
 |none=>simp[vM] at h
 |some x=>
  have e:=bP.kI (x:=x) (y:=y) (by simpa[vM] using h);rw[e]
structure BT where
 f:Nat
 args:List AV
 n:Nat
 gl:List (Nat×bP)
 v:AV
 n':Nat
 ul:List (Nat×bP)
def hasB:List (Nat×bP)→Nat→Bool
 |[],_=>false
 |p::l,b=>cond (Nat.beq b p.1) true (hasB l b)
theorem kP:∀(l:List (Nat×bP)) (b:Nat),(iw l b).isSome=hasB l b
 |[],_=>rfl
 |p::l,b=>by
  simp only[iw,hasB];cases Nat.beq b p.1 with
  |true=>rfl
  |false=>exact kP l b
def uY(q:Nat→bP→Bool):List (Nat×bP)→Bool
 |[]=>true
 |p::l=>cond (q p.1 p.2) (uY q l) false
theorem gS{q:Nat→bP→Bool}:∀{l:List (Nat×bP)},uY q l=true→∀{b:Nat} {x:bP},iw l b=some x→q b x=true
 |[],_,b,x,hx=>by simp[iw] at hx
 |p::l,h,b,x,hx=>by
  simp only[uY] at h;cases hq:q p.1 p.2 with
  |false=>rw[hq] at h;simp at h
  |true=>
   rw[hq] at h;simp only[iw] at hx;cases hb:Nat.beq b p.1 with
   |true=>
    rw[hb] at hx;simp only[cond_true,Option.some.injEq] at hx;rw[Nat.eq_of_beq_eq_true hb,←hx];exact hq
   |false=>rw[hb] at hx;exact gS h hx
variable (fs:Nat→Option aj) (ms:Nat→String→Option Nat)
def TG(e:BT):Prop:=BS fs ms (.call e.f e.args (DR e.n e.gl)) (.val e.v (DR e.n' e.ul))∧
 uY (fun b _=>Nat.ble (b+1) e.n'&&(hasB e.gl b||Nat.ble e.n b)) e.ul=true
def AB:List (Nat×bP)→Tr bP→Tr bP
 |[],t=>t
 |p::l,t=>AB l (t.del p.1)
def BE:List (Nat×bP)→Tr bP→Tr bP
 |[],t=>t
 |p::l,t=>(BE l t).set p.1 p.2
theorem kM(p:Nat×bP)(l:List (Nat×bP))(b:Nat):hasB (p::l) b=true↔b=p.1∨hasB l b=true:=by
 simp only[hasB];cases hb:Nat.beq b p.1 with
 |true=>simp[Nat.eq_of_beq_eq_true hb]
 |false=>
  have:b≠p.1:=fun e=>by rw[e,Nat.beq_refl] at hb;simp at hb
  simp[this]
theorem HE{p:Nat×bP}{l:List (Nat×bP)}{b:Nat}(h:b≠p.1):iw (p::l) b=iw l b:=by
 simp only[iw];cases hb:Nat.beq b p.1 with
 |true=>exact absurd (Nat.eq_of_beq_eq_true hb) h
 |false=>rfl
theorem CO{p:Nat×bP}{l:List (Nat×bP)}:iw (p::l) p.1=some p.2:=by
 simp only[iw,Nat.beq_refl,cond_true]
theorem vi:∀(l:List (Nat×bP)) (t:Tr bP) (b:Nat),(AB l t).get b=if hasB l b=true then none else t.get b
 |[],t,b=>by simp[AB,hasB]
 |p::l,t,b=>by
  rw[show AB (p::l) t=AB l (t.del p.1) from rfl,vi l,Tr.cJ];by_cases h1:hasB l b=true
  ·rw[if_pos h1,if_pos ((kM p l b).2 (.inr h1))]
  ·rw[if_neg h1];by_cases h2:b=p.1
   ·rw[if_pos h2,if_pos ((kM p l b).2 (.inl h2))]
   ·rw[if_neg h2,if_neg (fun h=>((kM p l b).1 h).elim h2 h1)]
theorem wD:∀(l:List (Nat×bP)) (t:Tr bP) (b:Nat),(BE l t).get b=if hasB l b=true then iw l b else t.get b
 |[],t,b=>by simp[BE,hasB]
 |p::l,t,b=>by
  rw[show BE (p::l) t=(BE l t).set p.1 p.2 from rfl,Tr.aT];by_cases h2:b=p.1
  ·rw[if_pos h2,if_pos ((kM p l b).2 (.inl h2)),h2,CO]
  ·rw[if_neg h2,wD l,HE h2];by_cases h1:hasB l b=true
   ·rw[if_pos h1,if_pos ((kM p l b).2 (.inr h1))]
   ·rw[if_neg h1,if_neg (fun h=>((kM p l b).1 h).elim h2 h1)]
def fits(e:BT)(f:Nat)(args:List AV)(h:Heap):Bool:=
 cond (Nat.beq f e.f) (cond (Nat.beq h.next e.n) (cond (qK args e.args) (uY (fun b x=>vM (h.get b) x) e.gl) false) false) false
def HU:List BT→B8
 |[],_,_,_=>none
 |e::l,f,args,h=>cond (fits e f args h) (some (e.v,⟨e.n',BE e.ul (AB e.gl h.m)⟩)) (HU l f args h)
def QA:List BT→Prop
 |[]=>True
 |e::l=>TG fs ms e∧QA l
variable {fs ms}
theorem DZ:∀{l:List BT},QA fs ms l→qC fs ms (HU l)
 |[],_,f,args,h,v,h1,hh=>by simp[HU] at hh
 |e::l,hl,f,args,h,v,h1,hh=>by
  simp only[HU] at hh;cases hf:fits e f args h with
  |false=>rw[hf] at hh;exact DZ hl.2 _ _ _ _ _ hh
  |true=>
   rw[hf] at hh;simp only[cond_true,Option.some.injEq,Prod.mk.injEq] at hh;obtain⟨rfl,rfl⟩:=hh;unfold fits at hf;cases h1:Nat.beq f e.f with
   |false=>rw[h1] at hf;simp at hf
   |true=>
   cases h2:Nat.beq h.next e.n with
   |false=>rw[h1,h2] at hf;simp at hf
   |true=>
   cases h3:qK args e.args with
   |false=>rw[h1,h2,h3] at hf;simp at hf
   |true=>
   rw[h1,h2,h3] at hf;simp only[cond_true] at hf;have h1:=Nat.eq_of_beq_eq_true h1;have h2:=Nat.eq_of_beq_eq_true h2;have h3:=m5 h3;subst h1 h3;obtain⟨⟨hb,hn⟩,_⟩:=hl;have hsub:kV (DR e.n e.gl) h:=by
    refine⟨h2.symm,fun b x hx=>?_⟩;rw[kF] at hx;exact oW (gS hf hx)
   have ZI:∀b,hasB e.ul b=true→b<e.n'∧(hasB e.gl b=true∨e.n≤b):=by
    intro b hb;rw[←kP] at hb;cases hx:iw e.ul b with
    |none=>rw[hx] at hb;simp at hb
    |some x=>
     have:=gS hn hx;simp only[Bool.and_eq_true,Bool.or_eq_true] at this;refine⟨by have:=Nat.le_of_ble_eq_true this.1;omega,this.2.imp id fun t=>Nat.le_of_ble_eq_true t⟩
   have hnone:∀b,hasB e.ul b=false→iw e.ul b=none:=by
    intro b hb;rw[←kP] at hb;cases hx:iw e.ul b with
    |none=>rfl
    |some x=>rw[hx] at hb;simp at hb
   refine .za hsub hb rfl ?_ ?_
   ·intro b hlt;show(BE e.ul (AB e.gl h.m)).get b=_;rw[wD,vi,kF,kF,kP];by_cases hu:hasB e.ul b=true
    ·rw[if_pos hu];rcases(ZI b hu).2 with hg|hg
     ·rw[if_pos hg]
     ·omega
    ·rw[if_neg hu,hnone b (by simpa using hu)];rfl
   ·intro b hge hno;show(BE e.ul (AB e.gl h.m)).get b=_;rw[wD,vi,kF];by_cases hu:hasB e.ul b=true
    ·rw[if_pos hu];have:=(ZI b hu).1;rw[if_pos (show b<(DR e.n' e.ul).next from this)]
    ·rw[if_neg hu,hnone b (by simpa using hu)];have:h.m.get b=none:=hno;rw[this];simp
def HT:List (Nat×BT)→B8
 |[],_,_,_=>none
 |p::l,f,args,h=>cond (Nat.beq h.next p.1) (HU [p.2] f args h) (HT l f args h)
def HQ:List (Nat×List (Nat×BT))→B8
 |[],_,_,_=>none
 |p::l,f,args,h=>cond (Nat.beq f p.1) (HT p.2 f args h) (HQ l f args h)
def Lz:List (Nat×BT)→Prop
 |[]=>True
 |p::l=>TG fs ms p.2∧Lz l
def KN:List (Nat×List (Nat×BT))→Prop
 |[]=>True
 |p::l=>Lz (fs:=fs) (ms:=ms) p.2∧KN l
theorem DY:∀{l:List (Nat×BT)},Lz (fs:=fs) (ms:=ms) l→qC fs ms (HT l)
 |[],_,f,args,h,v,h1,hh=>by simp[HT] at hh
 |p::l,hl,f,args,h,v,h1,hh=>by
  simp only[HT] at hh;cases hb:Nat.beq h.next p.1 with
  |true=>rw[hb] at hh;exact DZ (l:=[p.2]) ⟨hl.1,trivial⟩ _ _ _ _ _ hh
  |false=>rw[hb] at hh;exact DY hl.2 _ _ _ _ _ hh
theorem DX:∀{l:List (Nat×List (Nat×BT))},KN (fs:=fs) (ms:=ms) l→qC fs ms (HQ l)
 |[],_,f,args,h,v,h1,hh=>by simp[HQ] at hh
 |p::l,hl,f,args,h,v,h1,hh=>by
  simp only[HQ] at hh;cases hb:Nat.beq f p.1 with
  |true=>rw[hb] at hh;exact DY hl.1 _ _ _ _ _ hh
  |false=>rw[hb] at hh;exact DX hl.2 _ _ _ _ _ hh
def rp(x:AV):Nat→List AV→List AV
 |0,l=>l
 |n+1,l=>x::rp x n l
abbrev iv(n:Int):AV:=.int .i64 n
def m9(e:BT)(r:iF):Bool:=match r with
 |.val v H=>cond (AV.same v e.v) (cond (Nat.beq H.next e.n') (cond (uY (fun b x=>vM (H.get b) x) e.ul) (uY (fun b _=>hasB e.ul b||(H.get b).isNone) e.gl) false) false) false
 |_=>false
def NW(x:bP)(k:bP→Bool):Bool:=match x with
 |.cells vs wr es=>fL vs fun vs=>k (.cells vs wr es)
 |x=>k x
theorem JB(x:bP)(k:bP→Bool):NW x k=k x:=by cases x<;>simp[NW,AH]
def wJ:List (Nat×bP)→(Tr bP→Bool)→Bool
 |[],k=>k .nil
 |p::l,k=>wJ l fun t=>NW p.2 fun x=>zW t p.1 x k
theorem tM:∀(l:List (Nat×bP)) (k:Tr bP→Bool),wJ l k=k (l.foldr (fun p t=>Tr.set t p.1 p.2) .nil)
 |[],k=>rfl
 |p::l,k=>by simp only[wJ,tM l,JB,qm,List.foldr_cons]
theorem W7{mA:B8}(ho:qC fs ms mA){n:Nat}{e:BT}(h1:wJ e.gl (fun t=>EN fs ms mA n (.call e.f e.args ⟨e.n,t⟩) (m9 e))=true)
  (h2:uY (fun b _=>Nat.ble (b+1) e.n'&&(hasB e.gl b||Nat.ble e.n b)) e.ul=true):TG fs ms e:=by
 refine⟨?_,h2⟩;rw[tM] at h1;obtain⟨r,hr,hk⟩:=je ho n _ _ (oR h1);have hr:BS fs ms (.call e.f e.args (DR e.n e.gl)) r:=hr;cases r with
 |val v H=>
  unfold m9 at hk;cases a1:AV.same v e.v with
  |false=>simp[a1] at hk
  |true=>
  cases a2:Nat.beq H.next e.n' with
  |false=>simp[a1,a2] at hk
  |true=>
  cases a3:uY (fun b x=>vM (H.get b) x) e.ul with
  |false=>simp[a1,a2,a3] at hk
  |true=>
  simp only[a1,a2,a3,cond_true] at hk;have e1:=AV.kI a1;subst e1;refine .forget ⟨(Nat.eq_of_beq_eq_true a2).symm,fun b x hx=>?_⟩ ?_ hr
  ·rw[kF] at hx;exact oW (gS a3 hx)
  ·intro b _ hne;rw[kF] at hne⊢;cases hx:iw e.gl b with
   |none=>exact absurd hx hne
   |some x=>
    have:=gS hk hx;cases hu:iw e.ul b with
    |some y=>exact(oW (gS a3 hu)).symm
    |none=>
     have hh:hasB e.ul b=false:=by rw[←kP,hu];rfl
     rw[hh] at this;simp only[Bool.false_or,Option.isNone_iff_eq_none] at this;exact this.symm
 |_=>simp[m9] at hk
section
variable (fs:Nat→Option aj) (ms:Nat→String→Option Nat) (mA:B8)
def Eu(k:AV→Heap→Bool):List (AV×Heap)→Bool
 |[]=>true
 |p::l=>cond (fV p.1 fun v=>TN p.2 fun h=>k v h) (Eu k l) false
def CJ(i:bp):Option (Option Nat×List bx):=match i with
 |⟨dst,none,.e .next,args⟩=>some (dst,args)
 |_=>none
def E1(k:AX→Env→Heap→Bool)(r:iF):Bool:=match r with
 |.code x e h=>k x e h
 |_=>false
def Sm(k:AX→Env→Heap→Bool)(r:iF):Bool:=match r with
 |.ops _ e h=>k .normal e h
 |_=>false
def IV(n:Nat):Nat→Bool→AC→Env→Heap→(AX→Env→Heap→Bool)→Bool
 |0,_,_,_,_,_=>false
 |m+1,rd,c,e,h,k=>match c with
  |.seq a b=>IV n m rd a e h fun x e1 h1=>match x with
   |.normal=>IV n m rd b e1 h1 k
   |x=>k x e1 h1
  |.cond c a b=>match e.ev c with
   |.bool t=>IV n m rd (cond t a b) e h k
   |_=>false
  |.block id c=>IV n m rd c e h fun x e1 h1=>match x with
   |.exit i=>cond (Nat.beq i id) (k .normal e1 h1) (k (.exit i) e1 h1)
   |x=>k x e1 h1
  |.loop c=>IV n m rd c e h fun x e1 h1=>match x with
   |.normal=>IV n m rd (.loop c) e1 h1 k
   |x=>k x e1 h1
  |.ops []=>EN fs ms mA n (.code rd (.ops []) e h) (E1 k)
  |.ops (i::l)=>match CJ i with
   |some (dst,args)=>match o5 (args.map e.ev) h with
    |some (p::cs)=>Eu (fun v h1=>gE e dst v fun e1=>EN fs ms mA n (.ops rd l e1 h1) (Sm k)) (p::cs)
    |_=>EN fs ms mA n (.code rd (.ops (i::l)) e h) (E1 k)
   |none=>EN fs ms mA n (.code rd (.ops (i::l)) e h) (E1 k)
  |c=>EN fs ms mA n (.code rd c e h) (E1 k)
end
theorem Ai{k:AV→Heap→Bool}:∀{l:List (AV×Heap)},Eu k l=true→∀p∈l,k p.1 p.2=true
 |[],_,p,hp=>by simp at hp
 |q::l,h,p,hp=>by
  simp only[Eu,vn,Gx] at h;cases hk:k q.1 q.2 with
  |false=>rw[hk] at h;simp at h
  |true=>
   rw[hk] at h;rcases List.mem_cons.1 hp with rfl|hp
   ·exact hk
   ·exact Ai h p hp
theorem E0{i:bp}{dst:Option Nat}{args:List bx}(h:CJ i=some (dst,args)):i=⟨dst,none,.e .next,args⟩:=by
 unfold CJ at h;split at h
 ·simp only[Option.some.injEq,Prod.mk.injEq] at h;obtain⟨rfl,rfl⟩:=h;rfl
 ·simp at h
theorem jB{mA:B8}(ho:qC fs ms mA)(n:Nat):∀(m:Nat) (rd:Bool) (c:AC) (e:Env) (h:Heap) (k:AX→Env→Heap→Bool),IV fs ms mA n m rd c e h k=true→BS fs ms (.any rd c e h) (.post fun x e h=>k x e h=true)
 |0,rd,c,e,h,k,hh=>by simp[IV] at hh
 |m+1,rd,c,e,h,k,hh=>by
  have hd:∀{c:AC},EN fs ms mA n (.code rd c e h) (E1 k)=true→BS fs ms (.any rd c e h) (.post fun x e h=>k x e h=true):=by
   intro c hh;obtain⟨r,hr,hk⟩:=je ho n _ _ (oR hh);have hr:BS fs ms (.code rd c e h) r:=hr;cases r with
   |code x e1 h1=>exact .Ca hr hk
   |_=>simp[E1] at hk
  unfold IV at hh;split at hh
  ·refine .Cb (jB ho n m _ _ _ _ _ hh) (fun x e1 h1 hr hn=>?_) (fun e1 h1 hr=>jB ho n m _ _ _ _ _ hr);cases x<;>simp[AX.bB] at hn<;>exact hr
  ·split at hh
   ·rename_i t ht;exact .yS ht (jB ho n m _ _ _ _ _ hh)
   ·simp at hh
  ·rename_i id c0;refine .uZ (jB ho n m _ _ _ _ _ hh) (fun x e1 h1 hr=>?_);cases x with
   |exit i=>
    simp only at hr;show k (if i=_ then _ else _) e1 h1=true;cases hb:Nat.beq i id with
    |true=>rw[hb] at hr;rw[if_pos (Nat.eq_of_beq_eq_true hb)];exact hr
    |false=>rw[hb] at hr;rw[if_neg (fun hi=>by rw[hi,Nat.beq_refl] at hb;simp at hb)];exact hr
   |_=>exact hr
  ·refine .yT (jB ho n m _ _ _ _ _ hh) (fun x e1 h1 hr hn=>?_) (fun e1 h1 hr=>jB ho n m _ _ _ _ _ hr);cases x<;>simp[AX.bB] at hn<;>exact hr
  ·exact hd hh
  ·rename_i i l;split at hh
   ·rename_i dst args hi;have:=E0 hi;subst this;split at hh
    ·rename_i p cs hc;have hall:=Ai hh;have hone:∀q∈p::cs,∃tr e' h',BS fs ms (.ops rd l (e.put dst q.1) q.2) (.ops tr e' h')∧k .normal e' h'=true:=by
      intro q hq;have:=hall q hq;rw[fy] at this;obtain⟨r,hr,hk⟩:=je ho n _ _ (oR this);cases r with
      |ops tr e' h'=>exact⟨tr,e',h',hr,hk⟩
      |_=>simp[Sm] at hk
     classical
     let T:AV×Heap→List aK:=fun q=>if hq:q∈p::cs then Classical.choose (hone q hq) else []
     let E:AV×Heap→Env:=fun q=>if hq:q∈p::cs then Classical.choose (Classical.choose_spec (hone q hq)) else e
     let H:AV×Heap→Heap:=fun q=>if hq:q∈p::cs then Classical.choose (Classical.choose_spec (Classical.choose_spec (hone q hq))) else h
     have hT:∀q∈p::cs,BS fs ms (.ops rd l (e.put dst q.1) q.2) (.ops (T q) (E q) (H q))∧k .normal (E q) (H q)=true:=by
      intro q hq;simp only[T,E,H,dif_pos hq];exact Classical.choose_spec (Classical.choose_spec (Classical.choose_spec (hone q hq)))
     exact .yU T E H hc (by simp) (fun q hq=>(hT q hq).1) (fun q hq=>(hT q hq).2)
    ·exact hd hh
   ·exact hd hh
  ·exact hd hh
def Hz(af:aj)(e:BT)(x:AX)(e1:Env)(h1:Heap):Bool:=match x with
 |.normal|.ret=>match eA e1 h1 af.results with
  |some vs=>m9 e (.val (cB vs) h1)
  |none=>false
 |_=>false
theorem F9{e:BT}{v:AV}{H:Heap}(hk:m9 e (.val v H)=true):v=e.v∧kV (DR e.n' e.ul) H∧∀b,(DR e.n e.gl).get b≠none→(DR e.n' e.ul).get b=H.get b:=by
 unfold m9 at hk;cases a1:AV.same v e.v with
 |false=>simp[a1] at hk
 |true=>
 cases a2:Nat.beq H.next e.n' with
 |false=>simp[a1,a2] at hk
 |true=>
 cases a3:uY (fun b x=>vM (H.get b) x) e.ul with
 |false=>simp[a1,a2,a3] at hk
 |true=>
 simp only[a1,a2,a3,cond_true] at hk;refine⟨AV.kI a1,⟨(Nat.eq_of_beq_eq_true a2).symm,fun b x hx=>?_⟩,?_⟩
 ·rw[kF] at hx;exact oW (gS a3 hx)
 ·intro b hne;rw[kF] at hne⊢;cases hx:iw e.gl b with
  |none=>exact absurd hx hne
  |some x=>
   have:=gS hk hx;cases hu:iw e.ul b with
   |some y=>exact(oW (gS a3 hu)).symm
   |none=>
    have hh:hasB e.ul b=false:=by rw[←kP,hu];rfl
    rw[hh] at this;simp only[Bool.false_or,Option.isNone_iff_eq_none] at this;exact this.symm
theorem TM{mA:B8}(ho:qC fs ms mA){n:Nat}{e:BT}{af:aj}(hf:fs e.f=some af)(hlen:Nat.ble e.args.length af.ntmps=true)
  (h1:wJ e.gl (fun t=>lK af.ntmps e.args fun e0=>IV fs ms mA n n false af.body e0 ⟨e.n,t⟩ (Hz af e))=true)
  (h2:uY (fun b _=>Nat.ble (b+1) e.n'&&(hasB e.gl b||Nat.ble e.n b)) e.ul=true):TG fs ms e:=by
 refine⟨?_,h2⟩;rw[tM,iY] at h1;have hb:=jB ho n n _ _ _ _ _ h1;refine .uD hf (Nat.le_of_ble_eq_true hlen) hb (fun x e1 H hk=>?_);unfold Hz at hk;have key:(match eA e1 H af.results with
  |some vs=>m9 e (.val (cB vs) H)
  |none=>false)=true→(∃vs,eA e1 H af.results=some vs∧cB vs=e.v)∧kV (DR e.n' e.ul) H∧∀b,b<(DR e.n e.gl).next→(DR e.n e.gl).get b≠none→(DR e.n' e.ul).get b=H.get b:=by
  intro hk;split at hk
  ·rename_i vs hvs;obtain⟨g1,g2,g3⟩:=F9 hk;exact⟨⟨vs,hvs,g1⟩,g2,fun b _=>g3 b⟩
  ·simp at hk
 split at hk
 ·exact⟨.inl rfl,key hk⟩
 ·exact⟨.inr rfl,key hk⟩
 ·simp at hk
theorem Pd{mA:B8}(ho:qC fs ms mA){f n:Nat}(he:EN fs ms mA n (.call f [] ⟨0,.nil⟩) isTrue=true):PC fs ms f [] (.bool true):=by
 obtain⟨h1,hb⟩:=Dy ho (oR he);exact⟨rfl,rfl,.bool true,⟨0,.nil⟩,fun B=>.closed hb rfl rfl,.clean rfl⟩
end Ads
end Go.Proofs.YtmnolnoeibhjgaaGreat
