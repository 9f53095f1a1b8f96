/-
  What Vs does is done in Ads.
-/
import Derived.Test.YtnlcabhfkpafmaaGreatVsEff
set_option linter.unusedVariables false
set_option linter.unusedSimpArgs false
namespace Go.Proofs.YtnlcabhfkpafmaaGreat
namespace Ads
section
variable {s:Nat→Nat} {n:Nat} {F:Nat→Prop} {g h:Heap}
theorem nV{bs:List Nat}:∀{g:Heap} (b:Nat),(dQ bs g).get b=if b∈bs then none else g.get b:=by
 induction bs with
 |nil=>intro g b;simp[dQ]
 |cons a bs ih=>
  intro g b;simp only[dQ,ih,Heap.cL,List.mem_cons];by_cases h1:b∈bs<;>by_cases h2:b=a<;>simp[h1,h2]
theorem eM{bs:List Nat}:∀{g:Heap},(dQ bs g).next=g.next:=by
 induction bs with
 |nil=>intro g;rfl
 |cons a bs ih=>intro g;simp only[dQ,ih];rfl
theorem qx{B:Nat→Prop}{F':Nat→Prop}{v v':AV}(f:kY B g v v')(r:HR s F g h)(hF:∀b,F b→F' b)(hB:∀b,B b→g.get b≠none→F' (s b)):
  ∀{w:AV},Rel s g.next F h v w→Rel s g.next F' h v' w:=by
 induction f with
 |clean _=>intro w q;exact q.mono (fun _ _=>rfl) (Nat.le_refl _) hF (fun _ _=>rfl)
 |agg h1 _ ih=>
  intro w q;cases q with
  |agg g1 g2=>
   refine .agg (h1▸g1) fun i x y hx hy=>?_;rename_i cs cs' ws _;have hl:=(List.getElem?_eq_some_iff.1 hx).1;have hz:=List.getElem?_eq_getElem (l:=cs) (i:=i) (by rw[h1];exact hl);exact ih i _ x hz hx (g2 i _ y hz hy)
 |cD h1 _ ih=>
  intro w q;cases q with
  |cD g1 g2=>
   refine .cD (h1▸g1) fun i x y hx hy=>?_;rename_i cs cs' ws _;have hl:=(List.getElem?_eq_some_iff.1 hx).1;have hz:=List.getElem?_eq_getElem (l:=cs) (i:=i) (by rw[h1];exact hl);exact ih i _ x hz hx (g2 i _ y hz hy)
 |iface _ ih=>
  intro w q;cases q with
  |iface g1=>exact .iface (ih g1)
 |aH=>intro w q;cases q;exact .iN
 |func h1 _ h2 _ ih1 ih2=>
  intro w q;cases q with
  |func g1 g2 g3 g4=>
   rename_i fn a a' c c' _ _ wa wc;refine .func (h1▸g1) (fun i x y hx hy=>?_) (h2▸g3) fun i x y hx hy=>?_
   ·have hl:=(List.getElem?_eq_some_iff.1 hx).1;have hz:=List.getElem?_eq_getElem (l:=a) (i:=i) (by rw[h1];exact hl);exact ih1 i _ x hz hx (g2 i _ y hz hy)
   ·have hl:=(List.getElem?_eq_some_iff.1 hx).1;have hz:=List.getElem?_eq_getElem (l:=c) (i:=i) (by rw[h2];exact hl);exact ih2 i _ x hz hx (g4 i _ y hz hy)
 |ptr hb hg h1 h2 _ ih=>
  intro w q;cases q with
  |ptr hlt=>
   rename_i b o base o' cs vs wr es _;obtain⟨vs',wr',hy,hr,_⟩:=r.cells hg;refine .fp (hB _ hb (by rw[hg];simp)) hy h1 (by rw[←hr.1];exact h2) fun j c y hc hy'=>?_;have hl:=(List.getElem?_eq_some_iff.1 hy').1;have hz:=List.getElem?_eq_getElem (l:=vs) (i:=base+j) (by rw[hr.1];exact hl);exact ih j c _ hc hz (hr.2 _ _ y hz hy')
 |sl hb hg h1 h2 h3 h4 nN h5 h6 _ ih=>
  intro w q;cases q with
  |sl hlt=>
   obtain⟨vs',wr',hy,hr,_⟩:=r.cells hg;refine .fz (hB _ hb (by rw[hg];simp)) hy h1 h2 (by rw[←hr.1];exact h3) h4 nN h5 h6 fun i x j c y hx hc hy'=>?_;rename_i vs _ _ _ _;have hl:=(List.getElem?_eq_some_iff.1 hy').1;have hz:=List.getElem?_eq_getElem (by rw[hr.1];exact hl);exact ih i x j c _ hx hc hz (hr.2 _ _ y hz hy')
theorem zZ(r:HR s F g h)(bs:List Nat):Out g.next s F g h s (fun b=>F b∨∃c,c∈bs∧g.get c≠none∧s c=b) (dQ bs g) h:=by
 have vi:∀c,(dQ bs g).get c≠none→g.get c≠none∧c∉bs:=by
  intro c hc;rw[nV] at hc;split at hc
  ·exact absurd rfl hc
  ·exact⟨hc,by assumption⟩
 refine⟨⟨?_,r.qQ,?_,?_,?_,?_⟩,by rw[eM];exact Nat.le_refl _,Nat.le_refl _,fun _ _=>rfl,fun b hb=>.inl hb,?_,fun _ _ _=>rfl,?_,?_,?_⟩
 ·intro b hb;rw[eM] at hb;rw[nV,r.top b hb];simp
 ·rintro b (hb|⟨c,_,hc,rfl⟩)
  ·exact r.nY b hb
  ·exact r.slt hc
 ·intro b x hx;have:=vi b (by rw[hx];simp);rw[nV,if_neg this.2] at hx;obtain⟨y,hy,hr⟩:=r.bJ b x hx;refine⟨y,hy,?_⟩;rw[eM];exact hr.mono (fun _ _=>rfl) (Nat.le_refl _) (fun _ hb=>.inl hb) (fun _ _=>rfl)
 ·intro b c hb hc he;exact r.inj b c (vi b hb).1 (vi c hc).1 he
 ·intro b hb hf;obtain⟨h1,h2⟩:=vi b hb;rcases hf with hf|⟨c,hc,EJ,he⟩
  ·exact r.own b h1 hf
  ·exact h2 (r.inj b c h1 EJ he.symm▸hc)
 ·rintro b (hb|⟨c,hc,EJ,rfl⟩) _
  ·exact .inl hb
  ·exact .inr ⟨c,EJ,rfl⟩
 ·intro c hc hn;exact absurd (r.top c hc) (vi c hn).1
 ·intro c hc hn;exact(vi c hn).1
 ·intro b st p e ps a c hb;exact⟨st,p,hb⟩
theorem Hg{e e':Env}(r:HR s F g h)(he:ER s g.next F h e e'){rv:rB}{v:AV}(hv:oD e g rv=some v):∃v',wS e' h rv=some v'∧Rel s g.next F h v v':=by
 cases rv with
 |tmp t=>exact⟨_,rfl,he t v hv⟩
 |cell a k agg=>
  simp only[wS,oD] at hv⊢;split at hv
  ·rename_i b o hb;have h1:=he a _ hb;generalize e'.get a=w at h1;cases h1 with
   |ptr hlt=>
    cases agg with
    |true=>
     simp only[cond_true,Option.map_eq_some_iff] at hv⊢;obtain⟨cs,hcs,rfl⟩:=hv;obtain⟨cs',h2,h3⟩:=lH r hcs;exact⟨.agg cs',⟨cs',h2,rfl⟩,.agg h3.1 h3.2⟩
    |false=>
     simp only[cond_false] at hv⊢;exact yV r hv
  ·simp at hv
theorem r7{e e':Env}(r:HR s F g h)(he:ER s g.next F h e e'):∀{rs:List rB} {vs:List AV},eH e g rs=some vs→∃vs',gD e' h rs=some vs'∧aW s g.next F h vs vs'
 |[],vs,hv=>by simp only[eH,Option.some.injEq] at hv;subst hv;exact⟨[],rfl,.nil⟩
 |rv::rs,vs,hv=>by
  simp only[eH] at hv;split at hv
  ·rename_i v ws h1 h2;cases hv
   obtain⟨v',a1,a2⟩:=Hg r he h1;obtain⟨ws',b1,b2⟩:=r7 r he h2;simp only[gD,a1,b1];exact⟨_,rfl,.cons a2 b2⟩
  ·simp at hv
theorem wU{vs vs':List AV}(q:aW s n F h vs vs'):Rel s n F h (cX vs) (cX vs'):=by
 rcases vs with _|⟨v,_|⟨u,vs⟩⟩
 ·rw[q.mV];exact .undef
 ·obtain⟨y,rfl,hy⟩:=q.one;exact hy
 ·obtain⟨v',l,rfl,h1,h2⟩:=q.cons_inv;obtain⟨u',l',rfl,h3,h4⟩:=h2.cons_inv;have:=h1|>fun h1=>aW.cons h1 (aW.cons h3 h4)
  exact .cD this.1 this.2
theorem mB{e e':Env}(he:ER s n F h e e'){i:bu}{b:Bool}(hw:cZ i e=some b):bN i e'=b:=by
 unfold cZ at hw;unfold bN;split at hw
 ·rename_i hg;rw[hg];simpa using hw
 ·rename_i d want hg;rw[hg];show(match e'.get d with|.bool b=>b==want|_=>false)=b;have:=he d;generalize Tr.get e d=x at this hw;generalize e'.get d=y at this;cases x with
  |none=>simp at hw
  |some x=>
   have:=this x rfl;cases this<;>first|(simp only[Option.some.injEq] at hw;exact hw)|(simp at hw)
end
section
variable (fs:Nat→Option aq) (ms:Nat→String→Option Nat)
inductive TR:(Nat→Nat)→(Nat→Prop)→Heap→Heap→List bu→Env→Env→List aJ→List aJ→(Nat→Nat)→(Nat→Prop)→Heap→Heap→Prop
 |nil {s F g h e e'}:HR s F g h→TR s F g h [] e e' [] [] s F g h
 |cons {s F g h s1 F1 g1 h1 s2 F2 g2 h2 e e'} {i:bu} {l:List bu} {m m':aJ} {tr kI}:HR s F g h→ER s g.next F h e e'→Out g.next s F g h s1 F1 g1 h1→m.h=g→m'.h=h→m'.on=m.on→
   m.vals=i.args.map e.ev→m'.vals=i.args.map e'.ev→
   (m.on=true→dP e i.args=true∧aW s g.next F h m.vals m'.vals∧Rel s1 g1.next F1 h1 m.v m'.v∧(∀o,i.op=.p o→pV o m.vals=some m.v∧pI o m'.vals=some m'.v)∧∀o,i.op=.r o→rI o m'.vals h=some m'.v∧rV o m.vals g=some m.v)→
   (m.on=false→m.v=.undef∧m'.v=.undef)→
   TR s1 F1 g1 h1 l (e.put i.dst m.v) (e'.put i.dst m'.v) tr kI s2 F2 g2 h2→TR s F g h (i::l) e e' (m::tr) (m'::kI) s2 F2 g2 h2
def Sim(B:Nat):Task→jj→Prop
 |.code rd c e g,.code x e1 g1=>fj c=true→B≤g.next→∀s F h e',HR s F g h→ER s g.next F h e e'→∃s1 F1 h1 mG,BS fs ms (.code rd c e' h) (.code x mG h1)∧Out B s F g h s1 F1 g1 h1∧ER s1 g1.next F1 h1 e1 mG
 |.ops rd l e g,.ops tr e1 g1=>jZ l=true→∀s F h e',HR s F g h→ER s g.next F h e e'→∃s1 F1 h1 mG kI,BS fs ms (.ops rd l e' h) (.ops kI mG h1)∧Out g.next s F g h s1 F1 g1 h1∧ER s1 g1.next F1 h1 e1 mG∧TR s F g h l e e' tr kI s1 F1 g1 h1
 |.op rd o vals g,.val v g1=>DF o=true→∀s F h vals',HR s F g h→aW s g.next F h vals vals'→∃s1 F1 h1 v',BS fs ms (.op rd o vals' h) (.val v' h1)∧Out g.next s F g h s1 F1 g1 h1∧Rel s1 g1.next F1 h1 v v'
 |.cO fv args g,.val v g1=>∀s F h Gt args',HR s F g h→Rel s g.next F h fv Gt→aW s g.next F h args args'→∃s1 F1 h1 v',BS fs ms (.cO Gt args' h) (.val v' h1)∧Out g.next s F g h s1 F1 g1 h1∧Rel s1 g1.next F1 h1 v v'
 |.call f args g,.val v g1=>∀s F h args',HR s F g h→aW s g.next F h args args'→∃s1 F1 h1 v',BS fs ms (.call f args' h) (.val v' h1)∧Out g.next s F g h s1 F1 g1 h1∧Rel s1 g1.next F1 h1 v v'
 |.op rd o vals g,.jT v g1=>DF o=true→∀s F h vals',HR s F g h→aW s g.next F h vals vals'→∃s1 F1 h1,BS fs ms (.op rd o vals' h) (.jT v h1)∧Out g.next s F g h s1 F1 g1 h1
 |.cO fv args g,.jT v g1=>∀s F h Gt args',HR s F g h→Rel s g.next F h fv Gt→aW s g.next F h args args'→∃s1 F1 h1,BS fs ms (.cO Gt args' h) (.jT v h1)∧Out g.next s F g h s1 F1 g1 h1
 |.call f args g,.jT v g1=>∀s F h args',HR s F g h→aW s g.next F h args args'→∃s1 F1 h1,BS fs ms (.call f args' h) (.jT v h1)∧Out g.next s F g h s1 F1 g1 h1
 |_,_=>False
end
section
variable {fs:Nat→Option aq} {ms:Nat→String→Option Nat} {s:Nat→Nat} {F:Nat→Prop} {g h:Heap}
theorem s8{p:Nat→Nat}{n n':Nat}{v v':AV}(f:rC p n' v v'):∀{w:AV},Rel s n F h v' w→Rel (fun b=>s (p b)) n' F h v w:=by
 induction f with
 |cl hc=>intro w q;exact q.clean hc
 |ptr hb=>intro w q;cases q;exact .ptr (s:=fun b=>s (p b)) hb
 |sl hb=>intro w q;cases q;exact .sl (s:=fun b=>s (p b)) hb
 |map hb=>intro w q;cases q;exact .map (s:=fun b=>s (p b)) hb
 |yield hb=>intro w q;cases q;exact .yield (s:=fun b=>s (p b)) hb
 |iface _ ih=>intro w q;cases q with|iface q=>exact .iface (ih q)
 |agg h1 _ ih=>
  intro w q;cases q with
  |agg g1 g2=>
   rename_i cs cs' _ ws;refine .agg (h1.trans g1) fun i x y hx hy=>?_;have hl:=(List.getElem?_eq_some_iff.1 hx).1;have hz:=List.getElem?_eq_getElem (l:=cs') (i:=i) (by rw[←h1];exact hl);exact ih i x _ hx hz (g2 i _ y hz hy)
 |cD h1 _ ih=>
  intro w q;cases q with
  |cD g1 g2=>
   rename_i cs cs' _ ws;refine .cD (h1.trans g1) fun i x y hx hy=>?_;have hl:=(List.getElem?_eq_some_iff.1 hx).1;have hz:=List.getElem?_eq_getElem (l:=cs') (i:=i) (by rw[←h1];exact hl);exact ih i x _ hx hz (g2 i _ y hz hy)
 |func h1 _ h2 _ ih1 ih2=>
  intro w q;cases q with
  |func g1 g2 g3 g4=>
   rename_i fn a a' c c' _ _ wa wc;refine .func (h1.trans g1) (fun i x y hx hy=>?_) (h2.trans g3) fun i x y hx hy=>?_
   ·have hl:=(List.getElem?_eq_some_iff.1 hx).1;have hz:=List.getElem?_eq_getElem (l:=a') (i:=i) (by rw[←h1];exact hl);exact ih1 i x _ hx hz (g2 i _ y hz hy)
   ·have hl:=(List.getElem?_eq_some_iff.1 hx).1;have hz:=List.getElem?_eq_getElem (l:=c') (i:=i) (by rw[←h2];exact hl);exact ih2 i x _ hx hz (g4 i _ y hz hy)
theorem KK{p:Nat→Nat}{n n':Nat}{x y z:ck}(f:kM p n' x y)(q:BR s n F h y z):BR (fun b=>s (p b)) n' F h x z:=by
 cases f with
 |cells h1 h2=>
  rename_i vs vs' wr es;cases q with
  |cells r hw=>
   refine .cells ⟨h1.trans r.1,fun i a b ha hb=>?_⟩ hw;have hl:=(List.getElem?_eq_some_iff.1 ha).1;have hz:=List.getElem?_eq_getElem (l:=vs') (i:=i) (by rw[←h1];exact hl);exact s8 (h2 i a _ ha hz) (r.2 i _ b hz hb)
 |map h1 h2=>
  rename_i l l' _ _;cases q with
  |map r=>
   refine .map ⟨h1.trans r.1,fun i a b ha hb=>?_⟩;have hl:=(List.getElem?_eq_some_iff.1 ha).1;have hz:=List.getElem?_eq_getElem (l:=l') (i:=i) (by rw[←h1];exact hl);exact⟨s8 (h2 i a _ ha hz).1 (r.2 i _ b hz hb).1,s8 (h2 i a _ ha hz).2 (r.2 i _ b hz hb).2⟩
 |loop h1=>
  cases q with
  |loop r c1 c2=>
   refine .loop (fun i v hv=>?_) c1 c2;obtain⟨u,hu,hr⟩:=h1 i v hv;exact s8 hr (r i u hu)
theorem QG{B:Nat}{p:Nat→Nat}{e1 e:Env}{g1:Heap}{e':Env}(r:HR s F g1 h)(he:ER s g1.next F h e1 e')(c:GC B p e1 g1 e g):
  Out B s F g1 h (fun b=>s (p b)) F g h∧ER (fun b=>s (p b)) g.next F h e e':=by
 have hne:∀b,g.get b≠none→g1.get (p b)≠none:=by
  intro b hb;cases hx:g.get b with
  |none=>exact absurd hx hb
  |some x=>
   obtain⟨_,y,hy,_⟩:=c.Qd b x hx;rw[hy];simp
 refine⟨⟨⟨?_,r.qQ,r.nY,?_,?_,?_⟩,c.next,Nat.le_refl _,fun b hb=>by simp only[c.fix b hb],fun _=>id,fun b hb _=>.inl hb,fun _ _ _=>rfl,?_,?_,fun b st p e ps a c hb=>⟨st,p,hb⟩⟩,?_⟩
 ·intro b hb;cases hx:g.get b with
  |none=>rfl
  |some x=>have:=(c.Qd b x hx).1;omega
 ·intro b x hx;obtain⟨_,y,hy,hb⟩:=c.Qd b x hx;obtain⟨z,hz,hr⟩:=r.bJ _ y hy;exact⟨z,hz,KK hb hr⟩
 ·intro b d hb hd heq;exact c.inj b d hb hd (r.inj _ _ (hne b hb) (hne d hd) heq)
 ·intro b hb;exact r.own _ (hne b hb)
 ·intro d hd hn;exact .inr ⟨p d,hne d hn,rfl⟩
 ·intro d hd hn;have:=hne d hn;rw[c.fix d hd] at this;exact this
 ·intro i v hv;obtain⟨u,hu,hr⟩:=c.slots i v hv;exact s8 hr (he i u hu)
theorem m6{u:Nat→Heap}:∀{l:List bu} {win:List (List Nat)} {tr:List aJ},win.all (·.isEmpty)=true→cz u l win tr
 |[],_,_,_=>by simp[cz]
 |_::_,[],_,_=>by simp[cz]
 |_::_,_::_,[],_=>by simp[cz]
 |x::l,cs::win,m::tr,h=>by
  simp only[List.all_cons,Bool.and_eq_true] at h;simp only[cz];refine⟨?_,m6 h.2⟩;split
  ·intro _ c hc;rw[List.isEmpty_iff.1 h.1] at hc;simp at hc
  ·trivial
theorem nB{n:Nat}{st:Nat}{cE:Option AX}{e:Env}{ps:List Nat}{a b:AC}{y:ck}(r:BR s n F h (.loop st cE e ps a b) y):
  ∃e',y=.loop st cE e' ps a b∧ER s n F h e e'∧fj a=true∧fj b=true:=by
 cases r with
 |loop h1 h2 h3=>exact⟨_,rfl,h1,h2,h3⟩
theorem IL(r:HR s F g h):HR s F ⟨0,.nil⟩ h:=by
 refine⟨fun b _=>rfl,r.qQ,r.nY,fun b x hx=>?_,fun b c hb=>absurd rfl hb,fun b hb=>absurd rfl hb⟩;have:(none:Option ck)=some x:=hx;simp at this
theorem DL{D:Dom}:∀{v:AV},v.pl=true→v.aV D:=by
 intro v;refine AV.rec (motive_1:=fun v=>v.pl=true→v.aV D) (motive_2:=fun l=>lA l=true→bh D l) ?_ ?_ ?_ ?_ ?_ ?_ ?_ ?_ ?_ ?_ ?_ ?_ ?_ ?_ ?_ ?_ ?_ ?_ ?_ ?_ ?_ ?_ v
 case refine_11=>
  intro fn first aF ih1 ih2 hp
  simp only[AV.pl,Bool.and_eq_true] at hp;simp only[AV.aV];refine⟨?_,ih1 hp.1.1,ih2 hp.1.2⟩;intro l e;subst e;simp at hp
 case refine_14=>intro t v ih hp;simp only[AV.aV];exact ih (by simpa[AV.pl] using hp)
 case refine_16=>intro cs ih hp;simp only[AV.aV];exact ih (by simpa[AV.pl] using hp)
 case refine_17=>intro cs ih hp;simp only[AV.aV];exact ih (by simpa[AV.pl] using hp)
 case refine_20=>intro b o k hp;simp[AV.pl] at hp
 case refine_21=>intro _;trivial
 case refine_22=>intro x l ih1 ih2 hp;simp only[lA,Bool.and_eq_true] at hp;exact⟨ih1 hp.1,ih2 hp.2⟩
 all_goals (intros;simp_all[AV.pl,AV.aV])
theorem Cd{D:Dom}:∀{l:List AV},lA l=true→bh D l
 |[],_=>trivial
 |x::l,hp=>by simp only[lA,Bool.and_eq_true] at hp;exact⟨DL hp.1,Cd hp.2⟩
section
variable {s s1:Nat→Nat} {F F1:Nat→Prop} {g h g1 h1:Heap} {s0:Nat→Nat} {F0:Nat→Prop} {g0 h0:Heap} {n0:Nat}
def XU(P:Nat→Bool)(s:Nat→Nat)(n:Nat)(F:Nat→Prop)(h:Heap)(e e':Env):Prop:=∀i v,P i=true→Tr.get e i=some v→Rel s n F h v (e'.get i)
theorem XU.C0{P:Nat→Bool}{e e':Env}(r:XU P s0 n0 F0 h0 e e'):∀{l:List bE},l7 P l=true→kP l=true→dP e l=true→aW s0 n0 F0 h0 (l.map e.ev) (l.map e'.ev)
 |[],_,_,_=>.nil
 |.c v::l,hg,hc,hj=>by
  simp only[kP,Bool.and_eq_true] at hc;exact .cons (.dZ hc.1) (r.C0 hg hc.2 hj)
 |.t i::l,hg,hc,hj=>by
  simp only[kP,Bool.and_eq_true] at hc;simp only[dP,Bool.and_eq_true] at hj;simp only[l7,Bool.and_eq_true] at hg;obtain⟨v,hv⟩:=Option.isSome_iff_exists.1 hj.1;have:=r i v hg.1 hv;rw[←Dd hv] at this;exact .cons this (r.C0 hg.2 hc.2 hj.2)
theorem KG{o:Cy}{vals:List AV}{g:Heap}{v:AV}(h:rV o vals g=some v):o≠.entry:=by rintro rfl;simp[rV] at h
theorem DN{o:Cy}{b k:Nat}{h h':Heap}{v:AV}(hne:o≠.entry)(hg:h'.get b=h.get b)(hv:rI o [.ptr b k] h=some v):rI o [.ptr b k] h'=some v:=by
 cases o with
 |bY=>simp only[rI] at hv⊢;unfold Heap.bY Heap.row at hv⊢;rw[hg];exact hv
 |bf n=>simp only[rI] at hv⊢;unfold Heap.bf Heap.row at hv⊢;rw[hg];exact hv
 |entry=>exact absurd rfl hne
 |_=>simp[rI] at hv
theorem NU{l:List AV}(h:RH l=true):∃cs o,l=[.fp cs o]:=by
 unfold RH at h;split at h
 ·exact⟨_,_,rfl⟩
 ·simp at h
theorem VM{o:Cy}{cs:List AV}{k:Nat}{h:Heap}{v:AV}(hv:rV o [.fp cs k] h=some v)(h':Heap):rV o [.fp cs k] h'=some v:=by
 cases o with
 |bY=>exact hv
 |bf n=>exact hv
 |lookup ok z=>simp[rV,rI] at hv
 |toStr=>simp[rV,rI,l1] at hv
 |Kf=>simp[rV,rI] at hv
 |entry=>simp[rV] at hv
theorem Pb{s s':Nat→Nat}{n n':Nat}{F F':Nat→Prop}{h h':Heap}{v x y:AV}(r:Rel s n F h v x)(r':Rel s' n' F' h' v y)(ha:∀b,b<n→b<n'→s' b=s b)(hd:v.dt=true):y=x:=by
 cases v with
 |ptr b o=>cases r with|ptr h1=>cases r' with|ptr h2=>rw[ha _ h1 h2]
 |sl b o l c op=>cases r with|sl h1=>cases r' with|sl h2=>rw[ha _ h1 h2]
 |map b=>cases r with|map h1=>cases r' with|map h2=>rw[ha _ h1 h2]
 |yield b=>cases r with|yield h1=>cases r' with|yield h2=>rw[ha _ h1 h2]
 |rest b o k=>cases r with|rest h1=>cases r' with|rest h2=>rw[ha _ h1 h2]
 |_=>rw[r.iQ hd,r'.iQ hd]
theorem Hr{s s':Nat→Nat}{n n':Nat}{F F':Nat→Prop}{h h':Heap}{v x:AV}(r:Rel s n F h v x)(ha:∀b,b<n→b<n'→s b=s' b)(hd:KX n' v=true):Rel s' n' F' h' v x:=by
 cases v with
 |ptr b o=>
  cases r with
  |ptr h1=>
   have h2:b<n':=Nat.le_of_ble_eq_true hd;rw[ha _ h1 h2];exact .ptr h2
 |sl b o l c op=>
  cases r with
  |sl h1=>
   have h2:b<n':=Nat.le_of_ble_eq_true hd;rw[ha _ h1 h2];exact .sl h2
 |_=>
  rw[r.iQ hd];exact .dZ hd
theorem xg{s s':Nat→Nat}{n n':Nat}{F F':Nat→Prop}{h h':Heap}(ha:∀b,b<n→b<n'→s b=s' b):∀{l m:List AV},aW s n F h l m→Az n' l=true→aW s' n' F' h' l m
 |[],m,r,_=>by
  have:m=[]:=List.length_eq_zero_iff.1 r.1.symm;subst this;exact .nil
 |v::l,[],r,_=>by have:=r.1;simp at this
 |v::l,x::m,r,hd=>by
  simp only[Az,Bool.and_eq_true] at hd;exact .cons (Hr (r.2 0 v x rfl rfl) ha hd.1) (xg ha ⟨by simpa using r.1,fun i a b ha hb=>r.2 (i+1) a b ha hb⟩ hd.2)
theorem TR.fin{l:List bu}{e e':Env}{tr kI:List aJ}(t:TR s F g h l e e' tr kI s1 F1 g1 h1):g.next≤g1.next∧∀b,b<g.next→s1 b=s b:=by
 induction t with
 |nil _=>exact⟨Nat.le_refl _,fun _ _=>rfl⟩
 |cons _ _ ho _ _ _ _ _ _ _ _ ih=>exact⟨Nat.le_trans ho.next ih.1,fun b hb=>(ih.2 b (Nat.lt_of_lt_of_le hb ho.next)).trans (ho.bA b hb)⟩
theorem O3{l:List bu}{e e':Env}{tr kI:List aJ}(t:TR s F g h l e e' tr kI s1 F1 g1 h1)(HJ:HR s0 F0 g0 h0):(∀b,b<g0.next→s1 b=s0 b)→(∀b,F0 b→F b∧h.get b=h0.get b)→∀{n:Nat} {P:Nat→Bool},jZ l=true→XU P s0 g0.next F0 h0 e e'→zi g0 P l tr n→
  ∀(i:bu) (m':aJ) (o:Cy),l[n]?=some i→kI[n]?=some m'→i.op=.r o→rI o m'.vals h0=some m'.v:=by
 induction t with
 |nil _=>intro _ _ n P _ _ hw;simp[zi] at hw
 |@cons s F g h s1 F1 g1 h1 s2 F2 g2 h2 e e' i l m m' tr kI hr he ho hmg BG fI hv AL hok hoff tl ih=>
  intro hE hK n P hc hP hw;simp only[jZ,Bool.and_eq_true] at hc;cases n with
  |zero=>
   intro j k o hj hk hop;simp only[List.getElem?_cons_zero,Option.some.injEq] at hj hk;subst hj hk;obtain⟨w1,w2,w5⟩:=hw;obtain⟨a1,a2,a3,a4⟩:=hok w2;have q:aW s0 g0.next F0 h0 m.vals m'.vals:=by
    rcases Bool.or_eq_true_iff.1 w1 with w1|w1
    ·rw[hv,AL];exact hP.C0 w1 hc.1.2 a1
    ·exact xg (fun b qP iG=>((ho.bA b qP).symm.trans (tl.fin.2 b (Nat.lt_of_lt_of_le qP ho.next)).symm).trans (hE b iG)) a2 w1
   rcases w5 with⟨w3,w4⟩|⟨cs,o1,ny⟩
   rotate_left
   ·rw[ny] at q;obtain⟨y,hy,pM⟩:=q.one;cases pM with
    |fp hF _ _ _ _=>
     have h5:=(a4.2 o hop).1;rw[hy] at h5⊢;exact DN (KG (a4.2 o hop).2) (hK _ hF).2.symm h5
   have Rf:DF (.r o)=true:=hop▸hc.1.1;obtain⟨v',b1,b2⟩:=Aq HJ q Rf (w4 o hop);rw[b1,Pb b2 a3 (fun b qP iG=>(tl.fin.2 b iG).symm.trans (hE b qP)) w3]
  |succ n=>
   intro j k o hj hk hop;refine ih hE (fun b hb=>⟨ho.sub b (hK b hb).1,(ho.kE hr b (hK b hb).1).trans (hK b hb).2⟩) hc.2 ?_ hw j k o (by simpa using hj) (by simpa using hk) hop;intro u v hu cu;unfold Br at hu;cases hd:i.dst with
   |none=>
    rw[hd] at hu cu;simp only[Env.put] at cu⊢;exact hP u v hu cu
   |some d=>
    rw[hd] at hu cu;simp only[Env.put] at cu⊢;rw[uB];rw[Tr.bx] at cu;by_cases U7:u=d
    ·subst U7;rw[if_pos rfl] at cu⊢;simp only[Nat.beq_refl,cond_true] at hu;cases cu
     cases Jy:m.on with
     |false=>
      obtain⟨z1,z2⟩:=hoff Jy;rw[z1,z2];exact .undef
     |true=>
      obtain⟨a1,a2,a3,a4⟩:=hok Jy;cases Dn:i.op with
      |p o2=>
       rw[Dn] at hu;obtain⟨c1,c2⟩:=a4.1 o2 Dn;have q:aW s0 g0.next F0 h0 m.vals m'.vals:=by rw[hv,AL];exact hP.C0 hu hc.1.2 a1
       have Rf:KD o2=true:=by have:=hc.1.1;rw[Dn] at this;exact this
       obtain⟨v',b1,b2⟩:=Kz q Rf c1;rw[c2] at b1;cases b1
       exact b2
      |r o2=>
       rw[Dn] at hu;simp only[Bool.and_eq_true] at hu;obtain⟨d1,d2⟩:=a4.2 o2 Dn;have q:aW s0 g0.next F0 h0 m.vals m'.vals:=by rw[hv,AL];exact hP.C0 hu.1 hc.1.2 a1
       obtain⟨cs,o1,ny⟩:=NU hu.2;rw[ny] at q d2;have d3:=VM d2 g0;have Rf:DF (.r o2)=true:=by have:=hc.1.1;rw[Dn] at this;exact this
       obtain⟨v',b1,b2⟩:=Aq HJ q Rf d3;obtain⟨y,hy,pM⟩:=q.one;cases pM with
       |fp hF _ _ _ _=>
        rw[hy] at d1 b1;rw[DN (KG d2) (hK _ hF).2.symm d1] at b1;cases b1
        exact b2
      |_=>rw[Dn] at hu;simp at hu
    ·rw[if_neg U7] at cu⊢;have hb:Nat.beq u d=false:=by
      cases hb:Nat.beq u d with
      |false=>rfl
      |true=>exact absurd (Nat.eq_of_beq_eq_true hb) U7
     simp only[hb,cond_false] at hu;exact hP u v hu cu
theorem TR.from{l:List bu}{e e':Env}{tr kI:List aJ}(t:TR s F g h l e e' tr kI s1 F1 g1 h1):dW tr g1=g∧dW kI h1=h∧HR s F g h:=by
 cases t with
 |nil hr=>exact⟨rfl,rfl,hr⟩
 |cons hr _ _ hg hh=>exact⟨hg,hh,hr⟩
theorem G3{l:List bu}{e e':Env}{tr kI:List aJ}(t:TR s F g h l e e' tr kI s1 F1 g1 h1):∀{q:Tr ck} {b:Nat} {x:ck},b<h.next→Tr.get q b=some x→Tr.get (fT l kI q) b=some x:=by
 induction t with
 |nil _=>intro q b x _ hq;exact hq
 |@cons s F g h s1 F1 g1 h1 s2 F2 g2 h2 e e' i l m m' tr kI hr he ho hmg BG fI hv AL hok hoff _ ih=>
  intro q b x hb hq;have qP:b<h1.next:=Nat.lt_of_lt_of_le hb ho.hnext;unfold fT;split
  ·refine ih qP ?_;rw[Tr.bx,BG,if_neg (by omega)];exact hq
  ·exact ih qP hq
theorem TR.drop{l:List bu}{e e':Env}{tr kI:List aJ}(t:TR s F g h l e e' tr kI s1 F1 g1 h1):∀c,c<tr.length→
  ∃s0 F0 g0 h0 e0 CW,TR s0 F0 g0 h0 (l.drop c) e0 CW (tr.drop c) (kI.drop c) s1 F1 g1 h1∧ER s0 g0.next F0 h0 e0 CW:=by
 induction t with
 |nil _=>intro c hc;simp at hc
 |@cons s F g h s1 F1 g1 h1 s2 F2 g2 h2 e e' i l m m' tr kI hr he ho hmg BG fI hv AL hok hoff t ih=>
  intro c hc;cases c with
  |zero=>exact⟨s,F,g,h,e,e',.cons hr he ho hmg BG fI hv AL hok hoff t,he⟩
  |succ c=>exact ih c (by simpa using hc)
theorem TR.late{l:List bu}{e e':Env}{tr kI:List aJ}(t:TR s F g h l e e' tr kI s1 F1 g1 h1):∀{vals vals':List AV},aW s g.next F h vals vals'→∀c,c<tr.length→
  ∃s0 F0 g0 h0 e0 CW,TR s0 F0 g0 h0 (l.drop c) e0 CW (tr.drop c) (kI.drop c) s1 F1 g1 h1∧aW s0 g0.next F0 h0 vals vals'∧∀b,F b→h0.get b=h.get b:=by
 induction t with
 |nil _=>intro _ _ _ c hc;simp at hc
 |@cons s F g h s1 F1 g1 h1 s2 F2 g2 h2 e e' i l m m' tr kI hr he ho hmg BG fI hv AL hok hoff t ih=>
  intro vals vals' q c hc;cases c with
  |zero=>exact⟨s,F,g,h,e,e',.cons hr he ho hmg BG fI hv AL hok hoff t,q,fun _ _=>rfl⟩
  |succ c=>
   obtain⟨s0,F0,g0,h0,e0,CW,t0,q0,k0⟩:=ih (q.mono ho.bA ho.next ho.sub (ho.kE hr)) c (by simpa using hc);exact⟨s0,F0,g0,h0,e0,CW,t0,q0,fun b hb=>(k0 b (ho.sub b hb)).trans (ho.kE hr b hb)⟩
theorem TR.at{l:List bu}{e e':Env}{tr kI:List aJ}(t:TR s F g h l e e' tr kI s1 F1 g1 h1):∀(k:Nat) (m m':aJ),tr[k]?=some m→kI[k]?=some m'→m.on=true→
  ∃s0 F0 g0 h0 e0 CW,TR s0 F0 g0 h0 (l.drop k) e0 CW (tr.drop k) (kI.drop k) s1 F1 g1 h1∧aW s0 g0.next F0 h0 m.vals m'.vals∧(∃sK nK FK hK,Rel sK nK FK hK m.v m'.v∧∀b,b<nK→s1 b=sK b)∧∀i o,l[k]?=some i→i.op=.r o→rI o m'.vals h0=some m'.v∧o≠.entry:=by
 induction t with
 |nil _=>intro k m m' hm;simp at hm
 |@cons s F g h s1 F1 g1 h1 s2 F2 g2 h2 e e' i l m m' tr kI hr he ho hmg BG fI hv AL hok hoff t ih=>
  intro k n n' hn hn' hno;cases k with
  |zero=>
   simp only[List.getElem?_cons_zero,Option.some.injEq] at hn hn';subst hn hn';obtain⟨a1,a2,a3,a4⟩:=hok hno;exact⟨s,F,g,h,e,e',.cons hr he ho hmg BG fI hv AL hok hoff t,a2,⟨_,_,_,_,a3,t.fin.2⟩,fun j o hj hop=>by simp only[List.getElem?_cons_zero,Option.some.injEq] at hj;subst hj;exact⟨(a4.2 o hop).1,KG (a4.2 o hop).2⟩⟩
  |succ k=>
   obtain⟨s0,F0,g0,h0,e0,CW,t0,q0,p0,r0⟩:=ih k n n' (by simpa using hn) (by simpa using hn') hno;exact⟨s0,F0,g0,h0,e0,CW,t0,q0,p0,fun j o hj hop=>r0 j o (by simpa using hj) hop⟩
theorem wP{u:Nat→Heap}:∀{l:List bu} {win:List (List Nat)} {tr:List aJ},
  (∀(k:Nat) i cs m o,l[k]?=some i→win[k]?=some cs→tr[k]?=some m→i.op=.r o→m.on=true→∀c∈cs,rI o m.vals (u c)=some m.v)→cz u l win tr
 |[],_,_,_=>by simp[cz]
 |_::_,[],_,_=>by simp[cz]
 |_::_,_::_,[],_=>by simp[cz]
 |x::l,cs::win,m::tr,h=>by
  simp only[cz];refine⟨?_,wP fun k i cs m o h1 h2 h3=>h (k+1) i cs m o (by simpa using h1) (by simpa using h2) (by simpa using h3)⟩;split
  ·rename_i o ho;intro fI c hc;exact h 0 x cs m o rfl rfl rfl ho fI c hc
  ·trivial
theorem yP:∀{l:List bu} (c:Nat),jZ l=true→jZ (l.drop c)=true
 |l,0,h=>h
 |[],c+1,h=>rfl
 |i::l,c+1,h=>by
  simp only[jZ,Bool.and_eq_true] at h;exact yP c h.2
theorem TR.len{l:List bu}{e e':Env}{tr kI:List aJ}(t:TR s F g h l e e' tr kI s1 F1 g1 h1):tr.length=kI.length∧∀(k:Nat) (m m':aJ),tr[k]?=some m→kI[k]?=some m'→m'.on=m.on:=by
 induction t with
 |nil _=>exact⟨rfl,fun k m m' hm=>by simp at hm⟩
 |cons _ _ _ _ _ fI _ _ _ _ _ ih=>
  refine⟨by simp[ih.1],fun k m m' hm hm'=>?_⟩;cases k with
  |zero=>
   simp only[List.getElem?_cons_zero,Option.some.injEq] at hm hm';subst hm hm';exact fI
  |succ k=>exact ih.2 k m m' (by simpa using hm) (by simpa using hm')
theorem zl{l:List bu}{win:List (List Nat)}{e e':Env}{tr kI:List aJ}(hc:jZ l=true)(t:TR s F g h l e e' tr kI s1 F1 g1 h1)(hw:zk l win tr g1):mq l win kI h1:=by
 refine wP fun k i cs m' o vg h2 h3 hop fI c gu=>?_;have hk':k<kI.length:=(List.getElem?_eq_some_iff.1 h3).1;have hk:k<tr.length:=by rw[t.len.1];exact hk'
 have hm:tr[k]?=some tr[k]:=List.getElem?_eq_getElem hk;have Jy:tr[k].on=true:=by rw[←t.len.2 k _ _ hm h3];exact fI
 have key:∀s0 F0 g0 h0 e0 CW,TR s0 F0 g0 h0 (l.drop c) e0 CW (tr.drop c) (kI.drop c) s1 F1 g1 h1→rI o m'.vals h0=some m'.v→rI o m'.vals (cC l kI h1 c)=some m'.v:=by
  intro s0 F0 g0 h0 e0 CW t0 hr;obtain⟨f1,f2,f3⟩:=t0.from;refine Fq (fun b x hb=>?_) hr;have hlt:b<h0.next:=by
   by_cases hl:b<h0.next
   ·exact hl
   ·rw[f3.qQ b (by omega)] at hb;simp at hb
  show Tr.get (fT (l.drop c) (kI.drop c) (dW (kI.drop c) h1).m) b=some x;rw[f2];exact G3 t0 hlt hb
 rcases hw k i cs _ o vg h2 hm hop Jy c gu with⟨w1,w2⟩|⟨w1,w2,w5⟩
 ·obtain⟨s0,F0,g0,h0,e0,CW,t0,er0⟩:=t.drop c (by omega);obtain⟨f1,f2,f3⟩:=t0.from;rw[f1] at w2;have hr:=O3 t0 f3 t0.fin.2 (fun b hb=>⟨hb,rfl⟩) (yP c hc) (fun i v _ hv=>er0 i v hv) w2 i m' o (by rw[List.getElem?_drop];rw[show c+(k-c)=k by omega];exact vg) (by rw[List.getElem?_drop];rw[show c+(k-c)=k by omega];exact h3) hop;exact key _ _ _ _ _ _ t0 hr
 ·obtain⟨s0,F0,g0,h0,e0,CW,t0,q,kO,hrd⟩:=t.at k _ _ hm h3 Jy;obtain⟨s2,F2,g2,q6,e2,xM,t2,q2,hkeep⟩:=t0.late q (c-k) (by rw[List.length_drop];omega);simp only[List.drop_drop,show k+(c-k)=c by omega] at t2;obtain⟨f1,f2,f3⟩:=t2.from;rcases w5 with⟨w3,w4⟩|⟨cs1,o1,ny⟩
  rotate_left
  ·obtain⟨h5,hne⟩:=hrd i o vg hop;rw[ny] at q;obtain⟨y,hy,pM⟩:=q.one;cases pM with
   |fp hF _ _ _ _=>
    rw[hy] at h5;refine key _ _ _ _ _ _ t2 ?_;rw[hy];exact DN hne (hkeep _ hF) h5
  rw[f1] at w4;have Rf:DF (.r o)=true:=by
   have:∀{l:List bu} {k:Nat} {i:bu},jZ l=true→l[k]?=some i→DF i.op=true:=by
    intro l;induction l with
    |nil=>intro k i _ h;simp at h
    |cons j l ih=>
     intro k i hc h;simp only[jZ,Bool.and_eq_true] at hc;cases k with
     |zero=>simp only[List.getElem?_cons_zero,Option.some.injEq] at h;subst h;exact hc.1.1
     |succ k=>exact ih hc.2 (by simpa using h)
   exact hop▸this hc vg
  obtain⟨v',b1,b2⟩:=Aq f3 q2 Rf w4;refine key _ _ _ _ _ _ t2 ?_;obtain⟨sK,nK,FK,hK,k1,k2⟩:=kO;rw[b1,Pb b2 k1 (fun b qP iG=>(k2 b iG).symm.trans (t2.fin.2 b qP)) w3]
end
theorem sL{l m:List bu}:jZ (l++m)=(jZ l&&jZ m):=by
 induction l with
 |nil=>simp[jZ]
 |cons i l ih=>simp only[List.cons_append,jZ,ih,Bool.and_assoc]
theorem VS.sim(Xn:∀f af,fs f=some af→fj af.body=true){B:Nat}{t:Task}{r:jj}(hv:VS fs ms B t r):Sim fs ms B t r:=by
 induction hv with
 |skip=>intro _ hB s F h e' hr he;exact⟨s,F,h,e',.skip,.refl hr hB,he⟩
 |ops _ ih=>
  intro hc hB s F h e' hr he;obtain⟨s1,F1,h1,mG,kI,a1,a2,a3,_⟩:=ih hc s F h e' hr he;exact⟨s1,F1,h1,mG,.ops a1,a2.weaken hB,a3⟩
 |cB hw _ ih=>
  intro hc hB s F h e' hr he;obtain⟨s1,F1,h1,mG,kI,a1,a2,a3,_⟩:=ih hc s F h e' hr he;exact⟨s1,F1,h1,mG,.cB a1 (m6 hw),a2.weaken hB,a3⟩
 |Pa hw _ ih=>
  intro hc hB s F h e' hr he;obtain⟨s1,F1,h1,mG,kI,a1,a2,a3,a4⟩:=ih hc s F h e' hr he;exact⟨s1,F1,h1,mG,.cB a1 (zl hc a4 hw),a2.weaken hB,a3⟩
 |@xZ B rd a b e g e1 g1 r _ _ rR nO=>
  cases r with
  |code x e2 g2=>
   intro hc hB s F h e' hr he;simp only[fj,Bool.and_eq_true] at hc;obtain⟨s1,F1,h1,mG,a1,a2,a3⟩:=rR hc.1 hB s F h e' hr he;obtain⟨s2,F2,h2,xM,b1,b2,b3⟩:=nO hc.2 a2.next s1 F1 h1 mG a2.hr a3;exact⟨s2,F2,h2,xM,.xZ a1 b1,a2.trans hr b2,b3⟩
  |ops _ _ _=>exact nO.elim
  |val _ _=>exact nO.elim
  |jT _ _=>exact nO.elim
  |post _=>exact nO.elim
 |oS _ hx rR=>
  intro hc hB s F h e' hr he;simp only[fj,Bool.and_eq_true] at hc;obtain⟨s1,F1,h1,mG,a1,a2,a3⟩:=rR hc.1 hB s F h e' hr he;exact⟨s1,F1,h1,mG,.oS a1 hx,a2,a3⟩
 |@cond B rd c a b e g t r hao ht _ ih=>
  cases r with
  |code x e2 g2=>
   intro hc hB s F h e' hr he;simp only[fj,Bool.and_eq_true] at hc;have hce:=he.ev hc.1.1 hao;rw[ht] at hce;have gu:fj (bif t then a else b)=true:=by cases t;exact hc.2;exact hc.1.2
   obtain⟨s1,F1,h1,mG,a1,a2,a3⟩:=ih gu hB s F h e' hr he;exact⟨s1,F1,h1,mG,.cond hce.A3 a1,a2,a3⟩
  |ops _ _ _=>exact ih.elim
  |val _ _=>exact ih.elim
  |jT _ _=>exact ih.elim
  |post _=>exact ih.elim
 |nT _ ih=>
  intro hc hB s F h e' hr he;obtain⟨s1,F1,h1,mG,a1,a2,a3⟩:=ih hc hB s F h e' hr he;exact⟨s1,F1,h1,mG,.nT a1,a2,a3⟩
 |fJ _ hx ih=>
  intro hc hB s F h e' hr he;obtain⟨s1,F1,h1,mG,a1,a2,a3⟩:=ih hc hB s F h e' hr he;exact⟨s1,F1,h1,mG,.fJ a1 hx,a2,a3⟩
 |@mg B rd c e g e1 g1 r _ _ rR nO=>
  cases r with
  |code x e2 g2=>
   intro hc hB s F h e' hr he;obtain⟨s1,F1,h1,mG,a1,a2,a3⟩:=rR hc hB s F h e' hr he;obtain⟨s2,F2,h2,xM,b1,b2,b3⟩:=nO hc a2.next s1 F1 h1 mG a2.hr a3;exact⟨s2,F2,h2,xM,.mg a1 b1,a2.trans hr b2,b3⟩
  |ops _ _ _=>exact nO.elim
  |val _ _=>exact nO.elim
  |jT _ _=>exact nO.elim
  |post _=>exact nO.elim
 |cU _ hx rR=>
  intro hc hB s F h e' hr he;obtain⟨s1,F1,h1,mG,a1,a2,a3⟩:=rR hc hB s F h e' hr he;exact⟨s1,F1,h1,mG,.cU a1 hx,a2,a3⟩
 |exit=>intro _ hB s F h e' hr he;exact⟨s,F,h,e',.exit,.refl hr hB,he⟩
 |ret=>intro _ hB s F h e' hr he;exact⟨s,F,h,e',.ret,.refl hr hB,he⟩
 |@rangeFunc B gg ps a b e g f first aF v g2 st x hao yL _ hl hst hx ih=>
  intro hc hB s F h e' hr he;simp only[fj,Bool.and_eq_true] at hc;have hg:=he.ev hc.1.1 hao;rw[yL] at hg;generalize hg':e'.ev gg=fv at hg;cases hg with
  |@func _ _ first' _ oZ f1 f2 f3 f4=>
   have o1:=sU (x:=.loop 0 none e ps a b) (x':=.loop 0 none e' ps a b) hr (.loop he hc.1.2 hc.2);have hs0:kJ s g.next h.next g.next=h.next:=by unfold kJ;rw[if_pos rfl]
   have hm:∀{l l':List AV},aW s g.next F h l l'→aW (kJ s g.next h.next) (g.new (.loop 0 none e ps a b)).next F (h.new (.loop 0 none e' ps a b)) l l':=
    fun q=>q.mono o1.bA o1.next (fun _=>id) (o1.kE hr)
   have hy:Rel (kJ s g.next h.next) (g.new (.loop 0 none e ps a b)).next F (h.new (.loop 0 none e' ps a b)) (.yield g.next) (.yield h.next):=by
    have:=Rel.yield (s:=kJ s g.next h.next) (n:=(g.new (.loop 0 none e ps a b)).next) (F:=F) (h:=h.new (.loop 0 none e' ps a b)) (b:=g.next) (by simp);rw[hs0] at this;exact this
   obtain⟨s2,F2,h2,v',b1,b2,b3⟩:=ih _ F _ _ o1.hr ((hm ⟨f1,f2⟩).append (.cons hy (hm ⟨f3,f4⟩)));have o2:=o1.trans hr (b2.weaken (by simp));have EO:s2 g.next=h.next:=by rw[b2.bA _ (by simp),hs0]
   obtain⟨y,JS,xO⟩:=b2.hr.bJ _ _ hl;obtain⟨e3,rfl,he3,c1,c2⟩:=nB xO;rw[EO] at JS;obtain⟨st',p',hk⟩:=b2.loops h.next 0 none e' ps a b (by rw[Heap.bT,if_pos rfl]);rw[hk] at JS;cases JS
   have iY:=oG (b:=g.next) (x:=.loop 3 (dB x) e ps a b) (x':=.loop 3 (dB x) e' ps a b) b2.hr (by rw[hl];simp)
    (.loop he3 c1 c2) (by
     intro st p e5 ps5 a5 c5 gu;rw[EO,hk] at gu;cases gu
     exact⟨_,_,rfl⟩)
   rw[EO] at iY;refine⟨s2,F2,_,e',.rangeFunc hg' b1 hk hst hx,(o2.weaken hB).trans hr (iY.weaken (Nat.le_trans hB o2.next)),?_⟩;exact he.mono o2.bA o2.next o2.sub (fun c hc=>by rw[iY.kE b2.hr c (o2.sub c hc),o2.kE hr c hc])
 |@Xb B rd c e g i v v' bs r yL hf _ ih=>
  cases r with
  |code x e2 g2=>
   intro hc hB s F h e' hr he;have o1:=zZ hr bs;have uE:ER s (dQ bs g).next (fun b=>F b∨∃c,c∈bs∧g.get c≠none∧s c=b) h (Tr.set e i v') e':=by
    rw[eM];intro t u hu;rw[Tr.bx] at hu;split at hu
    ·rename_i ht;subst ht;cases hu
     exact qx hf hr (fun _ hb=>.inl hb) (fun b hb hn=>.inr ⟨b,hb,hn,rfl⟩) (he t v yL)
    ·exact(he t u hu).mono (fun _ _=>rfl) (Nat.le_refl _) (fun _ hb=>.inl hb) (fun _ _=>rfl)
   obtain⟨s1,F1,h1,mG,a1,a2,a3⟩:=ih hc (by rw[eM];exact hB) s _ h e' o1.hr uE;exact⟨s1,F1,h1,mG,a1,(o1.weaken hB).trans hr a2,a3⟩
  |ops _ _ _=>exact ih.elim
  |val _ _=>exact ih.elim
  |jT _ _=>exact ih.elim
  |post _=>exact ih.elim
 |@drop B rd c e g e1 r hd _ ih=>
  cases r with
  |code x e2 g2=>
   intro hc hB s F h e' hr he;exact ih hc hB s F h e' hr (fun i v hv=>he i v (hd i v hv))
  |ops _ _ _=>exact ih.elim
  |val _ _=>exact ih.elim
  |jT _ _=>exact ih.elim
  |post _=>exact ih.elim
 |@gc B rd c e g p e1 g1 r UG _ ih=>
  cases r with
  |code x e2 g2=>
   intro hc hB s F h e' hr he;obtain⟨o1,uE⟩:=QG hr he UG;obtain⟨s1,F1,h1,mG,a1,a2,a3⟩:=ih hc UG.next _ F h e' o1.hr uE;exact⟨s1,F1,h1,mG,a1,o1.trans hr a2,a3⟩
  |ops _ _ _=>exact ih.elim
  |val _ _=>exact ih.elim
  |jT _ _=>exact ih.elim
  |post _=>exact ih.elim
 |nil=>intro _ s F h e' hr he;exact⟨s,F,h,e',[],.nil,.refl hr (Nat.le_refl _),he,.nil hr⟩
 |@off B rd i l e g tr e1 g1 hw _ ih=>
  intro hc s F h e' hr he;simp only[jZ,Bool.and_eq_true] at hc;obtain⟨s1,F1,h1,mG,kI,a1,a2,a3,a4⟩:=ih hc.2 s F h (e'.put i.dst .undef) hr (he.put i.dst .undef);exact⟨s1,F1,h1,mG,_,.off (mB he hw) a1,a2,a3,.cons hr he (.refl hr (Nat.le_refl _)) rfl rfl rfl rfl rfl (fun h=>by simp at h) (fun _=>⟨rfl,rfl⟩) a4⟩
 |@on B rd i l e g v g1 tr e1 g2 hw hj hop _ uH ihl=>
  intro hc s F h e' hr he;simp only[jZ,Bool.and_eq_true] at hc;obtain⟨s1,F1,h1,v',a1,a2,a3⟩:=uH hc.1.1 s F h _ hr (he.C0 hc.1.2 hj);have uE:ER s1 g1.next F1 h1 (e.put i.dst v) (e'.put i.dst v'):=(he.mono a2.bA a2.next a2.sub (a2.kE hr)).put i.dst a3;obtain⟨s2,F2,h2,xM,kI,b1,b2,b3,b4⟩:=ihl hc.2 s1 F1 h1 _ a2.hr uE;refine⟨s2,F2,h2,xM,_,.on (mB he hw) a1 b1,a2.trans hr (b2.weaken a2.next),b3,.cons hr he a2 rfl rfl rfl rfl rfl (fun _=>⟨hj,he.C0 hc.1.2 hj,a3,fun o ho=>?_,fun o ho=>?_⟩) (fun h=>by simp at h) b4⟩
  rotate_left
  ·refine⟨?_,?_⟩
   ·rw[ho] at a1;cases a1 with
    |tD hp=>exact hp
   ·rw[ho] at hop;cases hop with
    |tD hp=>exact hp
  refine⟨?_,?_⟩
  ·rw[ho] at hop;cases hop with
   |CE hp=>exact hp
  ·rw[ho] at a1;cases a1 with
   |CE hp=>exact hp
 |CE hp=>
  intro hc s F h vals' hr q;obtain⟨v',a1,a2⟩:=Kz q hc hp;exact⟨s,F,h,v',.CE a1,.refl hr (Nat.le_refl _),a2⟩
 |@Oh B rd o vals g x f hp=>
  intro hc s F h vals' hr q;obtain⟨x',a1,a2,a3⟩:=P7 hr q hc hp;have o1:=sU hr a2;have hs0:kJ s g.next h.next g.next=h.next:=by unfold kJ;rw[if_pos rfl]
  refine⟨_,F,_,_,.Oh a1,o1,?_⟩;have:=a3 (s1:=kJ s g.next h.next) (n1:=(g.new x).next) (F1:=F) (h1:=h.new x') (by simp);rw[hs0] at this;exact this
 |tD hp=>
  intro hc s F h vals' hr q;obtain⟨v',a1,a2⟩:=Aq hr q hc hp;exact⟨s,F,h,v',.tD a1,.refl hr (Nat.le_refl _),a2⟩
 |Lz hp=>
  intro hc s F h vals' hr q;obtain⟨s1,v',h1,a1,a2,a3⟩:=Qt hr q hc hp;exact⟨s1,F,h1,v',.Lz a1,a2,a3⟩
 |VF hp=>
  intro hc s F h vals' hr q;obtain⟨s1,v',h1,a1,a2,a3⟩:=Nf hr q hp;exact⟨s1,F,h1,v',.VF a1,a2,a3⟩
 |mj _ ih=>
  intro hc s F h vals' hr q;obtain⟨Gt,args',rfl,q1,q2⟩:=q.cons_inv;obtain⟨s1,F1,h1,v',a1,a2,a3⟩:=ih s F h Gt args' hr q1 q2;exact⟨s1,F1,h1,v',.mj a1,a2,a3⟩
 |kF hm _ ih=>
  intro hc s F h vals' hr q;obtain⟨y,args',rfl,q1,q2⟩:=q.cons_inv;cases q1 with
  |iface q1=>
   obtain⟨s1,F1,h1,v',a1,a2,a3⟩:=ih s F h _ hr (.cons q1 q2);exact⟨s1,F1,h1,v',.kF hm a1,a2,a3⟩
 |cO _ ih=>
  intro s F h Gt args' hr q1 q2;cases q1 with
  |func f1 f2 f3 f4=>
   obtain⟨s1,F1,h1,v',a1,a2,a3⟩:=ih s F h _ hr (aW.append ⟨f1,f2⟩ (q2.append ⟨f3,f4⟩));exact⟨s1,F1,h1,v',.cO a1,a2,a3⟩
 |@yield B L args g cE e ps a b e2 g2 cr x e4 g4 K1 pX hg hlen _ By _ hx Tf rR nO=>
  intro s F h Gt args' hr q1 q2;cases q1 with
  |yield hL=>
   obtain⟨y,hy,xO⟩:=hr.bJ _ _ hg;obtain⟨e',rfl,he,c1,c2⟩:=nB xO;obtain⟨s1,F1,h1,xM,a1,a2,a3⟩:=rR c1 (Nat.le_refl _) s F h _ hr (he.fU (ps:=ps) q2);have BJ:s1 L=s L:=a2.bA L hL;obtain⟨y2,JS,QS⟩:=a2.hr.bJ _ _ By;obtain⟨e5,rfl,Te,_,_⟩:=nB QS;obtain⟨st',p',hk⟩:=a2.loops _ _ _ _ _ _ _ hy;rw[BJ] at JS;rw[hk] at JS;cases JS
   have iY:=oG (b:=L) (x:=.loop 1 cr e ps a b) (x':=.loop 1 cr e' ps a b) a2.hr (by rw[By];simp) (.loop Te c1 c2) (by
    intro st p e6 ps6 a6 c6 gu;rw[BJ,hk] at gu;cases gu
    exact⟨_,_,rfl⟩)
   rw[BJ] at iY;have Zw:ER s1 (g2.set L (.loop 1 cr e ps a b)).next F1 (h1.set (s L) (.loop 1 cr e' ps a b)) e2 xM:=a3.mono (fun _ _=>rfl) (Nat.le_refl _) (fun _=>id) (iY.kE a2.hr)
   obtain⟨s2,F2,h2,Zd,b1,b2,b3⟩:=nO c2 (Nat.le_trans a2.next (by simp)) s1 F1 _ xM iY.hr Zw;have o3:=(a2.trans hr (iY.weaken a2.next)).trans hr b2;have EO:s2 L=s L:=o3.bA L hL;obtain⟨y4,hy4,ZG⟩:=b2.hr.bJ _ _ Tf;obtain⟨e7,rfl,he7,_,_⟩:=nB ZG;obtain⟨acp,p'',hk2⟩:=o3.loops _ _ _ _ _ _ _ hy;rw[EO,hk2] at hy4;cases hy4
   have BK:=oG (b:=L) (x:=.loop (bif x.bG then 0 else 2) (dB x) e ps a b) (x':=.loop (bif x.bG then 0 else 2) (dB x) e' ps a b) b2.hr (by rw[Tf];simp) (.loop he7 c1 c2) (by
    intro st p e6 ps6 a6 c6 gu;rw[EO,hk2] at gu;cases gu
    exact⟨_,_,rfl⟩)
   rw[EO] at BK;exact⟨s2,F2,_,_,.yield hy (by rw[←q2.1];exact hlen) a1 hk b1 hx hk2,o3.trans hr (BK.weaken b2.next),.bool⟩
 |@call B f args g af x e1 g1 vs hf hlen _ hx hres ih=>
  intro s F h args' hr q;obtain⟨s1,F1,h1,mG,a1,a2,a3⟩:=ih (Xn f af hf) (Nat.le_refl _) s F h _ hr (ER.start af.ntmps q);obtain⟨vs',b1,b2⟩:=r7 a2.hr a3 hres;exact⟨s1,F1,h1,_,.call hf (by rw[←q.1];exact hlen) a1 hx b1,a2,wU b2⟩
 |@j6 B gg ps a b e g f first aF v g2 hao yL _ ih=>
  intro hc hB s F h e' hr he;simp only[fj,Bool.and_eq_true] at hc;have hg:=he.ev hc.1.1 hao;rw[yL] at hg;generalize hg':e'.ev gg=fv at hg;cases hg with
  |@func _ _ first' _ oZ f1 f2 f3 f4=>
   have o1:=sU (x:=.loop 0 none e ps a b) (x':=.loop 0 none e' ps a b) hr (.loop he hc.1.2 hc.2);have hs0:kJ s g.next h.next g.next=h.next:=by unfold kJ;rw[if_pos rfl]
   have hm:∀{l l':List AV},aW s g.next F h l l'→aW (kJ s g.next h.next) (g.new (.loop 0 none e ps a b)).next F (h.new (.loop 0 none e' ps a b)) l l':=
    fun q=>q.mono o1.bA o1.next (fun _=>id) (o1.kE hr)
   have hy:Rel (kJ s g.next h.next) (g.new (.loop 0 none e ps a b)).next F (h.new (.loop 0 none e' ps a b)) (.yield g.next) (.yield h.next):=by
    have:=Rel.yield (s:=kJ s g.next h.next) (n:=(g.new (.loop 0 none e ps a b)).next) (F:=F) (h:=h.new (.loop 0 none e' ps a b)) (b:=g.next) (by simp);rw[hs0] at this;exact this
   obtain⟨s2,F2,h2,b1,b2⟩:=ih _ F _ _ o1.hr ((hm ⟨f1,f2⟩).append (.cons hy (hm ⟨f3,f4⟩)));have o2:=o1.trans hr (b2.weaken (by simp));exact⟨s2,F2,h2,e',.j6 hg' b1,o2.weaken hB,he.mono o2.bA o2.next o2.sub (o2.kE hr)⟩
 |@qf B L args g cE e ps a id A l1 i l2 e2 g2 cr e3 g3 tr e4 g4 v g5 hg hlen _ hna By EN _ _ hw hj _ rR JV ihl uH=>
  intro s F h Gt args' hr q1 q2;cases q1 with
  |yield hL=>
   obtain⟨y,hy,xO⟩:=hr.bJ _ _ hg;obtain⟨e',rfl,he,c1,c2⟩:=nB xO;have c2':=c2;simp only[fj,Bool.and_eq_true] at c2;have ie:jZ (l1++i::l2)=true:=c2.2;rw[sL,Bool.and_eq_true] at ie;simp only[jZ,Bool.and_eq_true] at ie;obtain⟨s1,F1,h1,xM,a1,a2,a3⟩:=rR c1 (Nat.le_refl _) s F h _ hr (he.fU (ps:=ps) q2);have BJ:s1 L=s L:=a2.bA L hL;obtain⟨y2,JS,QS⟩:=a2.hr.bJ _ _ By;obtain⟨e5,rfl,Te,_,_⟩:=nB QS;obtain⟨st',p',hk⟩:=a2.loops _ _ _ _ _ _ _ hy;rw[BJ] at JS;rw[hk] at JS;cases JS
   have iY:=oG (b:=L) (x:=.loop 1 cr e ps a (.block id (.seq A (.ops (l1++i::l2))))) (x':=.loop 1 cr e' ps a (.block id (.seq A (.ops (l1++i::l2))))) a2.hr (by rw[By];simp) (.loop Te c1 c2') (by
    intro st p e6 ps6 a6 c6 gu;rw[BJ,hk] at gu;cases gu
    exact⟨_,_,rfl⟩)
   rw[BJ] at iY;have Zw:ER s1 (g2.set L (.loop 1 cr e ps a (.block id (.seq A (.ops (l1++i::l2)))))).next F1 (h1.set (s L) (.loop 1 cr e' ps a (.block id (.seq A (.ops (l1++i::l2)))))) e2 xM:=a3.mono (fun _ _=>rfl) (Nat.le_refl _) (fun _ hb=>hb) (iY.kE a2.hr)
   obtain⟨s2,F2,h2,Gj,b1,b2,b3⟩:=JV c2.1 (Nat.le_trans a2.next (by simp)) s1 F1 _ xM iY.hr Zw;have o3:=(a2.trans hr (iY.weaken a2.next)).trans hr b2;obtain⟨s3,F3,h3,Zd,kI,d1,d2,d3,_⟩:=ihl ie.1 s2 F2 h2 Gj b2.hr b3;have o4:=o3.trans hr (d2.weaken b2.next);obtain⟨s4,F4,h4,f1,f2⟩:=uH ie.2.1.1 s3 F3 h3 _ d2.hr (d3.C0 ie.2.1.2 hj);exact⟨s4,F4,h4,.qf hy (by rw[←q2.1];exact hlen) a1 hna hk EN b1 d1 (mB d3 hw) f1,o4.trans hr (f2.weaken o4.next)⟩
 |@G1 B rd l1 i l2 e g tr e1 g1 v g2 _ hw hj _ ihl uH=>
  intro hc hB s F h e' hr he;have ie:jZ (l1++i::l2)=true:=hc;rw[sL,Bool.and_eq_true] at ie;simp only[jZ,Bool.and_eq_true] at ie;obtain⟨s1,F1,h1,mG,kI,a1,a2,a3,_⟩:=ihl ie.1 s F h e' hr he;obtain⟨s2,F2,h2,b1,b2⟩:=uH ie.2.1.1 s1 F1 h1 _ a2.hr (a3.C0 ie.2.1.2 hj);exact⟨s2,F2,h2,mG,.G1 a1 (mB a3 hw) b1,(a2.trans hr (b2.weaken a2.next)).weaken hB,a3.mono b2.bA b2.next b2.sub (b2.kE a2.hr)⟩
 |@yz B rd l1 i win e g tr e1 g1 v g2 _ xR Jq xP hw hj _ ihl uH=>
  intro hc hB s F h e' hr he;have ie:jZ (l1++[i])=true:=hc;rw[sL,Bool.and_eq_true] at ie;simp only[jZ,Bool.and_eq_true] at ie;obtain⟨s1,F1,h1,mG,kI,a1,a2,a3,a4⟩:=ihl ie.1 s F h e' hr he;obtain⟨s2,F2,h2,b1,b2⟩:=uH ie.2.1.1 s1 F1 h1 _ a2.hr (a3.C0 ie.2.1.2 hj);have BI:mq l1 (win.take l1.length) kI h1:=by
   rcases xR with xR|xR
   ·refine m6 ?_;rw[List.all_eq_true] at xR⊢;exact fun x hx=>xR x (List.mem_of_mem_take hx)
   ·exact zl ie.1 a4 xR
  exact⟨s2,F2,h2,mG,.yz a1 BI Jq xP (mB a3 hw) b1,(a2.trans hr (b2.weaken a2.next)).weaken hB,a3.mono b2.bA b2.next b2.sub (b2.kE a2.hr)⟩
 |@qC B rd t x g hp=>
  intro hc s F h vals' hr q;have:=q.iQ (l:=[.iface t x]) (by simp[lA,AV.pl,hp]);subst this;exact⟨s,F,h,.qC,.refl hr (Nat.le_refl _)⟩
 |om _ ih=>
  intro hc s F h vals' hr q;obtain⟨Gt,args',rfl,q1,q2⟩:=q.cons_inv;obtain⟨s1,F1,h1,a1,a2⟩:=ih s F h Gt args' hr q1 q2;exact⟨s1,F1,h1,.om a1,a2⟩
 |lI hm _ ih=>
  intro hc s F h vals' hr q;obtain⟨y,args',rfl,q1,q2⟩:=q.cons_inv;cases q1 with
  |iface q1=>
   obtain⟨s1,F1,h1,a1,a2⟩:=ih s F h _ hr (.cons q1 q2);exact⟨s1,F1,h1,.lI hm a1,a2⟩
 |oY _ ih=>
  intro s F h Gt args' hr q1 q2;cases q1 with
  |func f1 f2 f3 f4=>
   obtain⟨s1,F1,h1,a1,a2⟩:=ih s F h _ hr (aW.append ⟨f1,f2⟩ (q2.append ⟨f3,f4⟩));exact⟨s1,F1,h1,.oY a1,a2⟩
 |@vF B f args g af v e1 g1 hf hlen _ ih=>
  intro s F h args' hr q;obtain⟨s1,F1,h1,mG,a1,a2,a3⟩:=ih (Xn f af hf) (Nat.le_refl _) s F h _ hr (ER.start af.ntmps q);exact⟨s1,F1,h1,.vF hf (by rw[←q.1];exact hlen) a1,a2⟩
 |@ux B f args g af A l1 dst r rest e1 g1 tr e2 g2 gf first aF x e3 g3 ag t l2 eu D4 e4 y e5 g5 vs hf hlen GB _ EN _ hj yL _ hx Va hg BA hbody BD HH _ kO _ hy hres JV ihl ihr Xw mF=>
  intro s F h args' hr q;have Dh:=Xn f af hf;rw[GB] at Dh;simp only[fj,Bool.and_eq_true] at Dh;obtain⟨hcA,ZK,hcR⟩:=Dh;rw[sL,Bool.and_eq_true] at ZK;have Uu:kP [r]=true:=by
   have:=ZK.2;simp only[jZ,pe,kP,Bool.and_eq_true] at this;simp only[kP,Bool.and_true];exact this.1.2.2.1
  have Td:=Xn gf ag hg;rw[hbody] at Td;simp only[fj,jZ,Bool.and_eq_true] at Td;obtain⟨s1,F1,h1,mG,a1,a2,a3⟩:=JV hcA (Nat.le_refl _) s F h _ hr (ER.start af.ntmps q);obtain⟨s2,F2,h2,xM,kI,b1,b2,b3,_⟩:=ihl ZK.1 s1 F1 h1 mG a2.hr a3;have o12:=a2.trans hr (b2.weaken a2.next);have hfr:=(b3.C0 Uu hj).2 0 _ _ rfl rfl;rw[yL] at hfr;obtain⟨s3,F3,h3,Gj,c1,c2,c3⟩:=ihr hcR (Nat.le_refl _) s2 F2 h2 _ b2.hr (b3.put dst .undef);have o23:=o12.trans hr (c2.weaken o12.next);generalize hw:xM.ev r=fw at hfr;cases hfr with
  |func f1 f2 f3 f4=>
   rename_i first' oZ;have Df:aW s2 g2.next F2 h2 (first++aF) (first'++oZ):=aW.append ⟨f1,f2⟩ ⟨f3,f4⟩;have hargs:aW s3 g3.next F3 h3 (first++aF) (first'++oZ):=⟨Df.1,fun i x y hx hy=>(Df.2 i x y hx hy).mono c2.bA c2.next c2.sub (c2.kE b2.hr)⟩;have hstart:ER s3 g3.next F3 h3 ((Env.start ag.ntmps (first++aF)).put (some t) (oC x)) ((Env.start ag.ntmps (first'++oZ)).put (some t) (oC x)):=(ER.start ag.ntmps hargs).put (some t) (.dZ Va);obtain⟨s4,F4,h4,Zd,acq,d1,d2,d3,_⟩:=Xw Td.1.2 s3 F3 h3 _ c2.hr hstart;have hh:=ou kO d1;subst hh;obtain⟨s5,F5,h5,e5',m1,m2,m3⟩:=mF Td.2 (Nat.le_refl _) s4 F4 h4 Zd d2.hr d3;have VA:=d2.trans c2.hr (m2.weaken d2.next);have hall:=o23.trans hr (VA.weaken o23.next);have e35:ER s5 g5.next F5 h5 e3 Gj:=c3.mono VA.bA VA.next VA.sub (VA.kE c2.hr);obtain⟨vs',p1,p2⟩:=r7 m2.hr e35 hres;exact⟨s5,F5,h5,_,.ux hf (by rw[←q.1];exact hlen) GB a1 EN b1 hw c1 hx hg (by rw[←Df.1];exact BA) hbody BD HH d1 kO m1 hy p1,hall,wU p2⟩
 |@pure B f args g v g1 v' _ kV hfz hcl' ih=>
  intro s F h args' hr q;have q0:aW s 0 F h args args':=q.clean kV;obtain⟨s1,F1,h1,w,a1,a2,a3⟩:=ih s F h args' (IL hr) q0;have pM:Rel s1 g1.next (fun b=>F1 b∨∃c,g1.get c≠none∧s1 c=b) h1 v' w:=qx hfz a2.hr (fun _ hb=>.inl hb) (fun b _ hn=>.inr ⟨b,hn,rfl⟩) a3;have hnew:∀b,(F1 b∨∃c,g1.get c≠none∧s1 c=b)→b<h.next→F b:=by
   rintro b (hb|⟨c,hc,rfl⟩) hlt
   ·rcases a2.new b hb hlt with hf|⟨c,hc,_⟩
    ·exact hf
    ·exact absurd rfl hc
   ·rcases a2.fresh c (Nat.zero_le _) hc with h1|⟨c0,h1,_⟩
    ·omega
    ·exact absurd rfl h1
  have pL:∀b,b<h.next→h1.get b=h.get b:=fun b hb=>a2.xW b hb (fun c hc=>absurd rfl hc);refine⟨s,fun b=>F b∨(h.next≤b∧(F1 b∨∃c,g1.get c≠none∧s1 c=b)),h1,w,a1,?_,?_⟩
  ·refine⟨⟨hr.top,a2.hr.qQ,?_,?_,hr.inj,?_⟩,Nat.le_refl _,a2.hnext,fun _ _=>rfl,fun b hb=>.inl hb,?_,fun b hb _=>pL b hb,fun c hc hn=>.inr ⟨c,hn,rfl⟩,fun c _ hn=>hn,?_⟩
   ·rintro b (hb|⟨_,hb|⟨c,hc,rfl⟩⟩)
    ·exact Nat.lt_of_lt_of_le (hr.nY b hb) a2.hnext
    ·exact a2.hr.nY b hb
    ·exact a2.hr.slt hc
   ·intro b x hx;obtain⟨y,hy,xO⟩:=hr.bJ b x hx;have hlt:=hr.slt (b:=b) (by rw[hx];simp);exact⟨y,by rw[pL _ hlt];exact hy,xO.mono (fun _ _=>rfl) (Nat.le_refl _) (fun _ hb=>.inl hb) (fun c hc=>pL c (hr.nY c hc))⟩
   ·rintro b hb (hf|⟨hle,_⟩)
    ·exact hr.own b hb hf
    ·have:=hr.slt hb;omega
   ·rintro b (hb|⟨hle,_⟩) hlt
    ·exact .inl hb
    ·omega
   ·intro b st p e ps a c hb;exact a2.loops b st p e ps a c hb
  ·refine(pM.clean (s':=s) (n':=g.next) hcl').mono (fun _ _=>rfl) (Nat.le_refl _) ?_ (fun _ _=>rfl);intro b hb;by_cases hlt:b<h.next
   ·exact .inl (hnew b hb hlt)
   ·exact .inr ⟨by omega,hb⟩
 |@T9 B f args args1 g bs v g1 hfz _ ih=>
  intro s F h args' hr q;have o1:=zZ hr bs;have q1:aW s (dQ bs g).next (fun b=>F b∨∃c,c∈bs∧g.get c≠none∧s c=b) h args1 args':=by
   rw[eM];refine⟨by rw[←hfz.1];exact q.1,fun i x y hx hy=>?_⟩;have hl:=(List.getElem?_eq_some_iff.1 hx).1;have hz:=List.getElem?_eq_getElem (l:=args) (i:=i) (by rw[hfz.1];exact hl);exact qx (hfz.2 i _ x hz hx) hr (fun _ hb=>.inl hb) (fun b hb hn=>.inr ⟨b,hb,hn,rfl⟩) (q.2 i _ y hz hy)
  obtain⟨s1,F1,h1,w,a1,a2,a3⟩:=ih s _ h args' o1.hr q1;rw[eM] at a2;exact⟨s1,F1,h1,w,a1,o1.trans hr a2,a3⟩
 |@Ua B f args g bs v v' g1 _ hfz ih=>
  intro s F h args' hr q;obtain⟨s1,F1,h1,w,a1,a2,a3⟩:=ih s F h args' hr q;have o1:=zZ a2.hr bs;refine⟨s1,_,h1,w,a1,a2.trans hr (o1.weaken a2.next),?_⟩;rw[eM];exact qx hfz a2.hr (fun _ hb=>.inl hb) (fun b hb hn=>.inr ⟨b,hb,hn,rfl⟩) a3
 |@closed B f args g v h1 hb hpa hpv=>
  intro s F h args' hr q;have ha:=q.iQ hpa;subst ha;exact⟨s,F,h,v,.fresh hb (Cd hpa) (DL hpv),.refl hr (Nat.le_refl _),.dZ hpv⟩
 |@view B f args args1 g v g1 hfz kV _ kO ih=>
  intro s F h args' hr q;have q1:aW s g.next (fun b=>b<h.next) h args1 args':=by
   refine⟨by rw[←hfz.1];exact q.1,fun i x y hx hy=>?_⟩;have hl:=(List.getElem?_eq_some_iff.1 hx).1;have hz:=List.getElem?_eq_getElem (l:=args) (i:=i) (by rw[hfz.1];exact hl);exact qx (hfz.2 i _ x hz hx) hr (fun b hb=>hr.nY b hb) (fun b _ hn=>hr.slt hn) (q.2 i _ y hz hy)
  have q0:=aW.clean (s':=s) (n':=0) q1 kV;have HJ:HR s (fun b=>b<h.next) ⟨0,.nil⟩ h:=by
   refine⟨fun b _=>rfl,hr.qQ,fun b hb=>hb,fun b x hx=>?_,fun b c hb=>absurd rfl hb,fun b hb=>absurd rfl hb⟩;have:(none:Option ck)=some x:=hx;simp at this
  obtain⟨s1,F1,h1,w,a1,a2,a3⟩:=ih s (fun b=>b<h.next) h args' HJ q0;have pL:∀b,b<h.next→h1.get b=h.get b:=fun b hb=>a2.xW b hb (fun c hc=>absurd rfl hc);have hw:=a3.iQ kO;subst hw;refine⟨s,F,h1,_,a1,?_,.dZ kO⟩;refine⟨⟨hr.top,a2.hr.qQ,fun b hb=>Nat.lt_of_lt_of_le (hr.nY b hb) a2.hnext,?_,hr.inj,hr.own⟩,Nat.le_refl _,a2.hnext,fun _ _=>rfl,fun b hb=>hb,fun b hb _=>.inl hb,fun b hb _=>pL b hb,fun c hc hn=>.inr ⟨c,hn,rfl⟩,fun c _ hn=>hn,?_⟩
  ·intro b x hx;obtain⟨y,hy,xO⟩:=hr.bJ b x hx;have hlt:=hr.slt (b:=b) (by rw[hx];simp);exact⟨y,by rw[pL _ hlt];exact hy,xO.mono (fun _ _=>rfl) (Nat.le_refl _) (fun _ hb=>hb) (fun c hc=>pL c (hr.nY c hc))⟩
  ·intro b st p e ps a c hb;exact a2.loops b st p e ps a c hb
 |@PW B f args args1 g g1 b0 o len cap op vs wr es hfz kV _ Pv kO ih=>
  intro s F h args' hr q;have q1:aW s g.next (fun b=>b<h.next) h args1 args':=by
   refine⟨by rw[←hfz.1];exact q.1,fun i x y hx hy=>?_⟩;have hl:=(List.getElem?_eq_some_iff.1 hx).1;have hz:=List.getElem?_eq_getElem (l:=args) (i:=i) (by rw[hfz.1];exact hl);exact qx (hfz.2 i _ x hz hx) hr (fun b hb=>hr.nY b hb) (fun b _ hn=>hr.slt hn) (q.2 i _ y hz hy)
  have q0:=aW.clean (s':=s) (n':=0) q1 kV;have HJ:HR s (fun b=>b<h.next) ⟨0,.nil⟩ h:=by
   refine⟨fun b _=>rfl,hr.qQ,fun b hb=>hb,fun b x hx=>?_,fun b c hb=>absurd rfl hb,fun b hb=>absurd rfl hb⟩;have:(none:Option ck)=some x:=hx;simp at this
  obtain⟨s1,F1,h1,w,a1,a2,a3⟩:=ih s (fun b=>b<h.next) h args' HJ q0;have pL:∀b,b<h.next→h1.get b=h.get b:=fun b hb=>a2.xW b hb (fun c hc=>absurd rfl hc);have hfr:h.next≤s1 b0:=by
   rcases a2.fresh b0 (Nat.zero_le _) (by rw[Pv];simp) with h2|⟨c0,h2,_⟩
   ·exact h2
   ·exact absurd rfl h2
  obtain⟨y0,hy0,ZF⟩:=a2.hr.bJ b0 _ Pv;have hs:∀b,b<g.next→(if b=g.next then s1 b0 else s b)=s b:=fun b hb=>if_neg (by omega);refine⟨fun b=>if b=g.next then s1 b0 else s b,F,h1,_,a1,?_,?_⟩
  ·refine⟨⟨?_,a2.hr.qQ,fun b hb=>Nat.lt_of_lt_of_le (hr.nY b hb) a2.hnext,?_,?_,?_⟩,by simp,a2.hnext,hs,fun b hb=>hb,fun b hb _=>.inl hb,fun b hb _=>pL b hb,?_,?_,?_⟩
   ·intro b hb;simp only[Heap.Kp] at hb;rw[Heap.bT,if_neg (by omega)];exact hr.top b (by omega)
   ·intro b x hx;rw[Heap.bT] at hx;by_cases vh:b=g.next
    ·rw[if_pos vh] at hx;cases hx
     simp only[if_pos vh];refine⟨y0,hy0,?_⟩;cases ZF with
     |cells r hw=>
      refine .cells ⟨r.1,fun i x y hx hy=>?_⟩ hw;have Va:=iU kO hx;have:=(r.2 i x y hx hy).iQ Va;subst this;exact .dZ Va
    ·rw[if_neg vh] at hx;simp only[if_neg vh];obtain⟨y,hy,xO⟩:=hr.bJ b x hx;have hlt:=hr.slt (b:=b) (by rw[hx];simp);exact⟨y,by rw[pL _ hlt];exact hy,xO.mono hs (by simp) (fun _ hb=>hb) (fun c hc=>pL c (hr.nY c hc))⟩
   ·intro b c hb hc he;rw[Heap.bT] at hb hc;by_cases h2:b=g.next<;>by_cases h3:c=g.next
    ·rw[h2,h3]
    ·rw[if_neg h3] at hc;simp only[if_pos h2,if_neg h3] at he;have:=hr.slt hc;omega
    ·rw[if_neg h2] at hb;simp only[if_pos h3,if_neg h2] at he;have:=hr.slt hb;omega
    ·rw[if_neg h2] at hb;rw[if_neg h3] at hc;simp only[if_neg h2,if_neg h3] at he;exact hr.inj b c hb hc he
   ·intro b hb hF;rw[Heap.bT] at hb;by_cases h2:b=g.next
    ·simp only[if_pos h2] at hF;have:=hr.nY _ hF;omega
    ·rw[if_neg h2] at hb;simp only[if_neg h2] at hF;exact hr.own b hb hF
   ·intro c hc hn;rw[Heap.bT] at hn;by_cases h2:c=g.next
    ·simp only[if_pos h2];exact .inl hfr
    ·rw[if_neg h2] at hn;exact absurd (hr.top c hc) hn
   ·intro c hc hn;rw[Heap.bT,if_neg (by omega)] at hn;exact hn
   ·intro b st p e ps a c hb;exact a2.loops b st p e ps a c hb
  ·cases a3 with
   |sl hlt=>
    have:=Rel.sl (s:=fun b=>if b=g.next then s1 b0 else s b) (n:=(g.new (.cells vs wr es)).next) (F:=F) (h:=h1) (b:=g.next) (o:=o) (len:=len) (cap:=cap) (op:=op) (by simp);simpa using this
end
end Ads
end Go.Proofs.YtnlcabhfkpafmaaGreat
