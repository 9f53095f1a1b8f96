/-
  What Vs does is done in Ads.
-/
import Derived.Test.YtenafeojcgmnhaaVsEff
set_option linter.unusedVariables false
set_option linter.unusedSimpArgs false
namespace Go.Proofs.Ytenafeojcgmnhaa
namespace Ads
section
variable {s:Nat→Nat} {n:Nat} {F:Nat→Prop} {g h:Heap}
theorem qM{bs:List Nat}:∀{g:Heap} (b:Nat),(gZ bs g).get b=if b∈bs then none else g.get b:=by
 induction bs with
 |nil=>intro g b;simp[gZ]
 |cons a bs ih=>
  intro g b;simp only[gZ,ih,Heap.cL,List.mem_cons];by_cases h1:b∈bs<;>by_cases h2:b=a<;>simp[h1,h2]
theorem fO{bs:List Nat}:∀{g:Heap},(gZ bs g).next=g.next:=by
 induction bs with
 |nil=>intro g;rfl
 |cons a bs ih=>intro g;simp only[gZ,ih];rfl
theorem pL{B:Nat→Prop}{F':Nat→Prop}{v v':AV}(f:lX B g v v')(r:HR s F g h)(hF:∀b,F b→F' b)(hB:∀b,B b→g.get b≠none→F' (s b)):
  ∀{w:AV},Rel s g.next F h v w→Rel s g.next F' h v' w:=by
 induction f with
 |clean _=>intro w q;exact q.mono (fun _ _=>rfl) (Nat.le_refl _) hF (fun _ _=>rfl)
 |agg h1 _ ih=>
  intro w q;cases q with
  |agg g1 g2=>
   refine .agg (h1▸g1) fun i x y hx hy=>?_;rename_i cs cs' ws _;have hl:=(List.getElem?_eq_some_iff.1 hx).1;have hz:=List.getElem?_eq_getElem (l:=cs) (i:=i) (by rw[h1];exact hl);exact ih i _ x hz hx (g2 i _ y hz hy)
 |cg h1 _ ih=>
  intro w q;cases q with
  |cg g1 g2=>
   refine .cg (h1▸g1) fun i x y hx hy=>?_;rename_i cs cs' ws _;have hl:=(List.getElem?_eq_some_iff.1 hx).1;have hz:=List.getElem?_eq_getElem (l:=cs) (i:=i) (by rw[h1];exact hl);exact ih i _ x hz hx (g2 i _ y hz hy)
 |iface _ ih=>
  intro w q;cases q with
  |iface g1=>exact .iface (ih g1)
 |aN=>intro w q;cases q;exact .iP
 |func h1 _ h2 _ ih1 ih2=>
  intro w q;cases q with
  |func g1 g2 g3 g4=>
   rename_i fn a a' c c' _ _ wa wc;refine .func (h1▸g1) (fun i x y hx hy=>?_) (h2▸g3) fun i x y hx hy=>?_
   ·have hl:=(List.getElem?_eq_some_iff.1 hx).1;have hz:=List.getElem?_eq_getElem (l:=a) (i:=i) (by rw[h1];exact hl);exact ih1 i _ x hz hx (g2 i _ y hz hy)
   ·have hl:=(List.getElem?_eq_some_iff.1 hx).1;have hz:=List.getElem?_eq_getElem (l:=c) (i:=i) (by rw[h2];exact hl);exact ih2 i _ x hz hx (g4 i _ y hz hy)
 |ptr hb hg h1 h2 _ ih=>
  intro w q;cases q with
  |ptr hlt=>
   rename_i b o base o' cs vs wr es _;obtain⟨vs',wr',hy,hr,_⟩:=r.cells hg;refine .fp (hB _ hb (by rw[hg];simp)) hy h1 (by rw[←hr.1];exact h2) fun j c y hc hy'=>?_;have hl:=(List.getElem?_eq_some_iff.1 hy').1;have hz:=List.getElem?_eq_getElem (l:=vs) (i:=base+j) (by rw[hr.1];exact hl);exact ih j c _ hc hz (hr.2 _ _ y hz hy')
 |sl hb hg h1 h2 h3 h4 pO h5 h6 _ ih=>
  intro w q;cases q with
  |sl hlt=>
   obtain⟨vs',wr',hy,hr,_⟩:=r.cells hg;refine .fz (hB _ hb (by rw[hg];simp)) hy h1 h2 (by rw[←hr.1];exact h3) h4 pO h5 h6 fun i x j c y hx hc hy'=>?_;rename_i vs _ _ _ _;have hl:=(List.getElem?_eq_some_iff.1 hy').1;have hz:=List.getElem?_eq_getElem (by rw[hr.1];exact hl);exact ih i x j c _ hx hc hz (hr.2 _ _ y hz hy')
theorem yP(r:HR s F g h)(bs:List Nat):Out g.next s F g h s (fun b=>F b∨∃c,c∈bs∧g.get c≠none∧s c=b) (gZ bs g) h:=by
 have z6:∀c,(gZ bs g).get c≠none→g.get c≠none∧c∉bs:=by
  intro c hc;rw[qM] at hc;split at hc
  ·exact absurd rfl hc
  ·exact⟨hc,by assumption⟩
 refine⟨⟨?_,r.qn,?_,?_,?_,?_⟩,by rw[fO];exact Nat.le_refl _,Nat.le_refl _,fun _ _=>rfl,fun b hb=>.inl hb,?_,fun _ _ _=>rfl,?_,?_,?_⟩
 ·intro b hb;rw[fO] at hb;rw[qM,r.top b hb];simp
 ·rintro b (hb|⟨c,_,hc,rfl⟩)
  ·exact r.nA b hb
  ·exact r.slt hc
 ·intro b x hx;have:=z6 b (by rw[hx];simp);rw[qM,if_neg this.2] at hx;obtain⟨y,hy,hr⟩:=r.bD b x hx;refine⟨y,hy,?_⟩;rw[fO];exact hr.mono (fun _ _=>rfl) (Nat.le_refl _) (fun _ hb=>.inl hb) (fun _ _=>rfl)
 ·intro b c hb hc he;exact r.inj b c (z6 b hb).1 (z6 c hc).1 he
 ·intro b hb hf;obtain⟨h1,h2⟩:=z6 b hb;rcases hf with hf|⟨c,hc,yY,he⟩
  ·exact r.own b h1 hf
  ·exact h2 (r.inj b c h1 yY he.symm▸hc)
 ·rintro b (hb|⟨c,hc,yY,rfl⟩) _
  ·exact .inl hb
  ·exact .inr ⟨c,yY,rfl⟩
 ·intro c hc hn;exact absurd (r.top c hc) (z6 c hn).1
 ·intro c hc hn;exact(z6 c hn).1
 ·intro b st p e ps a c hb;exact⟨st,p,hb⟩
theorem Fc{e e':Env}(r:HR s F g h)(he:ER s g.next F h e e'){rv:qF}{v:AV}(hv:vQ e g rv=some v):∃v',vP e' h rv=some v'∧Rel s g.next F h v v':=by
 cases rv with
 |tmp t=>exact⟨_,rfl,he t v hv⟩
 |cell a k agg=>
  simp only[vP,vQ] at hv⊢;split at hv
  ·rename_i b o hb;have h1:=he a _ hb;generalize e'.get a=w at h1;cases h1 with
   |ptr hlt=>
    cases agg with
    |true=>
     simp only[cond_true,Option.map_eq_some_iff] at hv⊢;obtain⟨cs,hcs,rfl⟩:=hv;obtain⟨cs',h2,h3⟩:=kR r hcs;exact⟨.agg cs',⟨cs',h2,rfl⟩,.agg h3.1 h3.2⟩
    |false=>
     simp only[cond_false] at hv⊢;exact xT r hv
  ·simp at hv
theorem qX{e e':Env}(r:HR s F g h)(he:ER s g.next F h e e'):∀{rs:List qF} {vs:List AV},js e g rs=some vs→∃vs',gK e' h rs=some vs'∧aT s g.next F h vs vs'
 |[],vs,hv=>by simp only[js,Option.some.injEq] at hv;subst hv;exact⟨[],rfl,.nil⟩
 |rv::rs,vs,hv=>by
  simp only[js] at hv;split at hv
  ·rename_i v ws h1 h2;cases hv
   obtain⟨v',a1,a2⟩:=Fc r he h1;obtain⟨ws',b1,b2⟩:=qX r he h2;simp only[gK,a1,b1];exact⟨_,rfl,.cons a2 b2⟩
  ·simp at hv
theorem vS{vs vs':List AV}(q:aT s n F h vs vs'):Rel s n F h (cR vs) (cR vs'):=by
 rcases vs with _|⟨v,_|⟨u,vs⟩⟩
 ·rw[q.mo];exact .undef
 ·obtain⟨y,rfl,hy⟩:=q.one;exact hy
 ·obtain⟨v',l,rfl,h1,h2⟩:=q.cons_inv;obtain⟨u',l',rfl,h3,h4⟩:=h2.cons_inv;have:=h1|>fun h1=>aT.cons h1 (aT.cons h3 h4)
  exact .cg this.1 this.2
theorem lR{e e':Env}(he:ER s n F h e e'){i:bq}{b:Bool}(hw:cT i e=some b):bP i e'=b:=by
 unfold cT at hw;unfold bP;split at hw
 ·rename_i hg;rw[hg];simpa using hw
 ·rename_i d want hg;rw[hg];show(match e'.get d with|.bool b=>b==want|_=>false)=b;have:=he d;generalize Tr.get e d=x at this hw;generalize e'.get d=y at this;cases x with
  |none=>simp at hw
  |some x=>
   have:=this x rfl;cases this<;>first|(simp only[Option.some.injEq] at hw;exact hw)|(simp at hw)
end
section
variable (fs:Nat→Option aC) (ms:Nat→String→Option Nat)
inductive TR:(Nat→Nat)→(Nat→Prop)→Heap→Heap→List bq→Env→Env→List aK→List aK→(Nat→Nat)→(Nat→Prop)→Heap→Heap→Prop
 |nil {s F g h e e'}:HR s F g h→TR s F g h [] e e' [] [] s F g h
 |cons {s F g h s1 F1 g1 h1 s2 F2 g2 h2 e e'} {i:bq} {l:List bq} {m m':aK} {tr kf}:HR s F g h→ER s g.next F h e e'→Out g.next s F g h s1 F1 g1 h1→m.h=g→m'.h=h→m'.on=m.on→
   m.vals=i.args.map e.ev→m'.vals=i.args.map e'.ev→
   (m.on=true→dQ e i.args=true∧aT s g.next F h m.vals m'.vals∧Rel s1 g1.next F1 h1 m.v m'.v∧(∀o,i.op=.p o→pV o m.vals=some m.v∧pI o m'.vals=some m'.v)∧∀o,i.op=.r o→rI o m'.vals h=some m'.v∧rV o m.vals g=some m.v)→
   (m.on=false→m.v=.undef∧m'.v=.undef)→
   TR s1 F1 g1 h1 l (e.put i.dst m.v) (e'.put i.dst m'.v) tr kf s2 F2 g2 h2→TR s F g h (i::l) e e' (m::tr) (m'::kf) s2 F2 g2 h2
def Sim(B:Nat):Task→jb→Prop
 |.code rd c e g,.code x e1 g1=>fq c=true→B≤g.next→∀s F h e',HR s F g h→ER s g.next F h e e'→∃s1 F1 h1 mz,BS fs ms (.code rd c e' h) (.code x mz h1)∧Out B s F g h s1 F1 g1 h1∧ER s1 g1.next F1 h1 e1 mz
 |.ops rd l e g,.ops tr e1 g1=>jJ l=true→∀s F h e',HR s F g h→ER s g.next F h e e'→∃s1 F1 h1 mz kf,BS fs ms (.ops rd l e' h) (.ops kf mz h1)∧Out g.next s F g h s1 F1 g1 h1∧ER s1 g1.next F1 h1 e1 mz∧TR s F g h l e e' tr kf s1 F1 g1 h1
 |.op rd o vals g,.val v g1=>CH o=true→∀s F h vals',HR s F g h→aT s g.next F h vals vals'→∃s1 F1 h1 v',BS fs ms (.op rd o vals' h) (.val v' h1)∧Out g.next s F g h s1 F1 g1 h1∧Rel s1 g1.next F1 h1 v v'
 |.cH fv args g,.val v g1=>∀s F h EI args',HR s F g h→Rel s g.next F h fv EI→aT s g.next F h args args'→∃s1 F1 h1 v',BS fs ms (.cH EI args' h) (.val v' h1)∧Out g.next s F g h s1 F1 g1 h1∧Rel s1 g1.next F1 h1 v v'
 |.call f args g,.val v g1=>∀s F h args',HR s F g h→aT s g.next F h args args'→∃s1 F1 h1 v',BS fs ms (.call f args' h) (.val v' h1)∧Out g.next s F g h s1 F1 g1 h1∧Rel s1 g1.next F1 h1 v v'
 |.op rd o vals g,.jD v g1=>CH o=true→∀s F h vals',HR s F g h→aT s g.next F h vals vals'→∃s1 F1 h1,BS fs ms (.op rd o vals' h) (.jD v h1)∧Out g.next s F g h s1 F1 g1 h1
 |.cH fv args g,.jD v g1=>∀s F h EI args',HR s F g h→Rel s g.next F h fv EI→aT s g.next F h args args'→∃s1 F1 h1,BS fs ms (.cH EI args' h) (.jD v h1)∧Out g.next s F g h s1 F1 g1 h1
 |.call f args g,.jD v g1=>∀s F h args',HR s F g h→aT s g.next F h args args'→∃s1 F1 h1,BS fs ms (.call f args' h) (.jD v h1)∧Out g.next s F g h s1 F1 g1 h1
 |_,_=>False
end
section
variable {fs:Nat→Option aC} {ms:Nat→String→Option Nat} {s:Nat→Nat} {F:Nat→Prop} {g h:Heap}
theorem sE{p:Nat→Nat}{n n':Nat}{v v':AV}(f:qG p n' v v'):∀{w:AV},Rel s n F h v' w→Rel (fun b=>s (p b)) n' F h v w:=by
 induction f with
 |cl hc=>intro w q;exact q.clean hc
 |ptr hb=>intro w q;cases q;exact .ptr (s:=fun b=>s (p b)) hb
 |sl hb=>intro w q;cases q;exact .sl (s:=fun b=>s (p b)) hb
 |map hb=>intro w q;cases q;exact .map (s:=fun b=>s (p b)) hb
 |yield hb=>intro w q;cases q;exact .yield (s:=fun b=>s (p b)) hb
 |iface _ ih=>intro w q;cases q with|iface q=>exact .iface (ih q)
 |agg h1 _ ih=>
  intro w q;cases q with
  |agg g1 g2=>
   rename_i cs cs' _ ws;refine .agg (h1.trans g1) fun i x y hx hy=>?_;have hl:=(List.getElem?_eq_some_iff.1 hx).1;have hz:=List.getElem?_eq_getElem (l:=cs') (i:=i) (by rw[←h1];exact hl);exact ih i x _ hx hz (g2 i _ y hz hy)
 |cg h1 _ ih=>
  intro w q;cases q with
  |cg g1 g2=>
   rename_i cs cs' _ ws;refine .cg (h1.trans g1) fun i x y hx hy=>?_;have hl:=(List.getElem?_eq_some_iff.1 hx).1;have hz:=List.getElem?_eq_getElem (l:=cs') (i:=i) (by rw[←h1];exact hl);exact ih i x _ hx hz (g2 i _ y hz hy)
 |func h1 _ h2 _ ih1 ih2=>
  intro w q;cases q with
  |func g1 g2 g3 g4=>
   rename_i fn a a' c c' _ _ wa wc;refine .func (h1.trans g1) (fun i x y hx hy=>?_) (h2.trans g3) fun i x y hx hy=>?_
   ·have hl:=(List.getElem?_eq_some_iff.1 hx).1;have hz:=List.getElem?_eq_getElem (l:=a') (i:=i) (by rw[←h1];exact hl);exact ih1 i x _ hx hz (g2 i _ y hz hy)
   ·have hl:=(List.getElem?_eq_some_iff.1 hx).1;have hz:=List.getElem?_eq_getElem (l:=c') (i:=i) (by rw[←h2];exact hl);exact ih2 i x _ hx hz (g4 i _ y hz hy)
theorem H9{p:Nat→Nat}{n n':Nat}{x y z:cw}(f:ki p n' x y)(q:BR s n F h y z):BR (fun b=>s (p b)) n' F h x z:=by
 cases f with
 |cells h1 h2=>
  rename_i vs vs' wr es;cases q with
  |cells r hw=>
   refine .cells ⟨h1.trans r.1,fun i a b ha hb=>?_⟩ hw;have hl:=(List.getElem?_eq_some_iff.1 ha).1;have hz:=List.getElem?_eq_getElem (l:=vs') (i:=i) (by rw[←h1];exact hl);exact sE (h2 i a _ ha hz) (r.2 i _ b hz hb)
 |map h1 h2=>
  rename_i l l' _ _;cases q with
  |map r=>
   refine .map ⟨h1.trans r.1,fun i a b ha hb=>?_⟩;have hl:=(List.getElem?_eq_some_iff.1 ha).1;have hz:=List.getElem?_eq_getElem (l:=l') (i:=i) (by rw[←h1];exact hl);exact⟨sE (h2 i a _ ha hz).1 (r.2 i _ b hz hb).1,sE (h2 i a _ ha hz).2 (r.2 i _ b hz hb).2⟩
 |loop h1=>
  cases q with
  |loop r c1 c2=>
   refine .loop (fun i v hv=>?_) c1 c2;obtain⟨u,hu,hr⟩:=h1 i v hv;exact sE hr (r i u hu)
theorem Mg{B:Nat}{p:Nat→Nat}{e1 e:Env}{g1:Heap}{e':Env}(r:HR s F g1 h)(he:ER s g1.next F h e1 e')(c:GC B p e1 g1 e g):
  Out B s F g1 h (fun b=>s (p b)) F g h∧ER (fun b=>s (p b)) g.next F h e e':=by
 have hne:∀b,g.get b≠none→g1.get (p b)≠none:=by
  intro b hb;cases hx:g.get b with
  |none=>exact absurd hx hb
  |some x=>
   obtain⟨_,y,hy,_⟩:=c.LB b x hx;rw[hy];simp
 refine⟨⟨⟨?_,r.qn,r.nA,?_,?_,?_⟩,c.next,Nat.le_refl _,fun b hb=>by simp only[c.fix b hb],fun _=>id,fun b hb _=>.inl hb,fun _ _ _=>rfl,?_,?_,fun b st p e ps a c hb=>⟨st,p,hb⟩⟩,?_⟩
 ·intro b hb;cases hx:g.get b with
  |none=>rfl
  |some x=>have:=(c.LB b x hx).1;omega
 ·intro b x hx;obtain⟨_,y,hy,hb⟩:=c.LB b x hx;obtain⟨z,hz,hr⟩:=r.bD _ y hy;exact⟨z,hz,H9 hb hr⟩
 ·intro b d hb hd heq;exact c.inj b d hb hd (r.inj _ _ (hne b hb) (hne d hd) heq)
 ·intro b hb;exact r.own _ (hne b hb)
 ·intro d hd hn;exact .inr ⟨p d,hne d hn,rfl⟩
 ·intro d hd hn;have:=hne d hn;rw[c.fix d hd] at this;exact this
 ·intro i v hv;obtain⟨u,hu,hr⟩:=c.slots i v hv;exact sE hr (he i u hu)
theorem mE{u:Nat→Heap}:∀{l:List bq} {win:List (List Nat)} {tr:List aK},win.all (·.isEmpty)=true→cq u l win tr
 |[],_,_,_=>by simp[cq]
 |_::_,[],_,_=>by simp[cq]
 |_::_,_::_,[],_=>by simp[cq]
 |x::l,cs::win,m::tr,h=>by
  simp only[List.all_cons,Bool.and_eq_true] at h;simp only[cq];refine⟨?_,mE h.2⟩;split
  ·intro _ c hc;rw[List.isEmpty_iff.1 h.1] at hc;simp at hc
  ·trivial
theorem mV{n:Nat}{st:Nat}{cu:Option AX}{e:Env}{ps:List Nat}{a b:AC}{y:cw}(r:BR s n F h (.loop st cu e ps a b) y):
  ∃e',y=.loop st cu e' ps a b∧ER s n F h e e'∧fq a=true∧fq b=true:=by
 cases r with
 |loop h1 h2 h3=>exact⟨_,rfl,h1,h2,h3⟩
theorem Gh(r:HR s F g h):HR s F ⟨0,.nil⟩ h:=by
 refine⟨fun b _=>rfl,r.qn,r.nA,fun b x hx=>?_,fun b c hb=>absurd rfl hb,fun b hb=>absurd rfl hb⟩;have:(none:Option cw)=some x:=hx;simp at this
theorem CO{D:Dom}:∀{v:AV},v.pl=true→v.aR D:=by
 intro v;refine AV.rec (motive_1:=fun v=>v.pl=true→v.aR D) (motive_2:=fun l=>kV l=true→bg D l) ?_ ?_ ?_ ?_ ?_ ?_ ?_ ?_ ?_ ?_ ?_ ?_ ?_ ?_ ?_ ?_ ?_ ?_ ?_ ?_ ?_ ?_ v
 case refine_11=>
  intro fn first aX ih1 ih2 hp
  simp only[AV.pl,Bool.and_eq_true] at hp;simp only[AV.aR];refine⟨?_,ih1 hp.1.1,ih2 hp.1.2⟩;intro l e;subst e;simp at hp
 case refine_14=>intro t v ih hp;simp only[AV.aR];exact ih (by simpa[AV.pl] using hp)
 case refine_16=>intro cs ih hp;simp only[AV.aR];exact ih (by simpa[AV.pl] using hp)
 case refine_17=>intro cs ih hp;simp only[AV.aR];exact ih (by simpa[AV.pl] using hp)
 case refine_20=>intro b o k hp;simp[AV.pl] at hp
 case refine_21=>intro _;trivial
 case refine_22=>intro x l ih1 ih2 hp;simp only[kV,Bool.and_eq_true] at hp;exact⟨ih1 hp.1,ih2 hp.2⟩
 all_goals (intros;simp_all[AV.pl,AV.aR])
theorem Bq{D:Dom}:∀{l:List AV},kV l=true→bg D l
 |[],_=>trivial
 |x::l,hp=>by simp only[kV,Bool.and_eq_true] at hp;exact⟨CO hp.1,Bq hp.2⟩
section
variable {s s1:Nat→Nat} {F F1:Nat→Prop} {g h g1 h1:Heap} {s0:Nat→Nat} {F0:Nat→Prop} {g0 h0:Heap} {n0:Nat}
def Tg(P:Nat→Bool)(s:Nat→Nat)(n:Nat)(F:Nat→Prop)(h:Heap)(e e':Env):Prop:=∀i v,P i=true→Tr.get e i=some v→Rel s n F h v (e'.get i)
theorem Tg.Cf{P:Nat→Bool}{e e':Env}(r:Tg P s0 n0 F0 h0 e e'):∀{l:List bG},lF P l=true→kr l=true→dQ e l=true→aT s0 n0 F0 h0 (l.map e.ev) (l.map e'.ev)
 |[],_,_,_=>.nil
 |.c v::l,hg,hc,hj=>by
  simp only[kr,Bool.and_eq_true] at hc;exact .cons (.dU hc.1) (r.Cf hg hc.2 hj)
 |.t i::l,hg,hc,hj=>by
  simp only[kr,Bool.and_eq_true] at hc;simp only[dQ,Bool.and_eq_true] at hj;simp only[lF,Bool.and_eq_true] at hg;obtain⟨v,hv⟩:=Option.isSome_iff_exists.1 hj.1;have:=r i v hg.1 hv;rw[←Cl hv] at this;exact .cons this (r.Cf hg.2 hc.2 hj.2)
theorem HY{o:BM}{vals:List AV}{g:Heap}{v:AV}(h:rV o vals g=some v):o≠.entry:=by rintro rfl;simp[rV] at h
theorem CT{o:BM}{b k:Nat}{h h':Heap}{v:AV}(hne:o≠.entry)(hg:h'.get b=h.get b)(hv:rI o [.ptr b k] h=some v):rI o [.ptr b k] h'=some v:=by
 cases o with
 |bW=>simp only[rI] at hv⊢;unfold Heap.bW Heap.row at hv⊢;rw[hg];exact hv
 |aO n=>simp only[rI] at hv⊢;unfold Heap.aO Heap.row at hv⊢;rw[hg];exact hv
 |entry=>exact absurd rfl hne
 |_=>simp[rI] at hv
theorem JU{l:List AV}(h:M9 l=true):∃cs o,l=[.fp cs o]:=by
 unfold M9 at h;split at h
 ·exact⟨_,_,rfl⟩
 ·simp at h
theorem Ri{o:BM}{cs:List AV}{k:Nat}{h:Heap}{v:AV}(hv:rV o [.fp cs k] h=some v)(h':Heap):rV o [.fp cs k] h'=some v:=by
 cases o with
 |bW=>exact hv
 |aO n=>exact hv
 |lookup ok z=>simp[rV,rI] at hv
 |toStr=>simp[rV,rI,l1] at hv
 |Hx=>simp[rV,rI] at hv
 |entry=>simp[rV] at hv
theorem KT{s s':Nat→Nat}{n n':Nat}{F F':Nat→Prop}{h h':Heap}{v x y:AV}(r:Rel s n F h v x)(r':Rel s' n' F' h' v y)(ha:∀b,b<n→b<n'→s' b=s b)(hd:v.dt=true):y=x:=by
 cases v with
 |ptr b o=>cases r with|ptr h1=>cases r' with|ptr h2=>rw[ha _ h1 h2]
 |sl b o l c op=>cases r with|sl h1=>cases r' with|sl h2=>rw[ha _ h1 h2]
 |map b=>cases r with|map h1=>cases r' with|map h2=>rw[ha _ h1 h2]
 |yield b=>cases r with|yield h1=>cases r' with|yield h2=>rw[ha _ h1 h2]
 |rest b o k=>cases r with|rest h1=>cases r' with|rest h2=>rw[ha _ h1 h2]
 |_=>rw[r.iR hd,r'.iR hd]
theorem Fk{s s':Nat→Nat}{n n':Nat}{F F':Nat→Prop}{h h':Heap}{v x:AV}(r:Rel s n F h v x)(ha:∀b,b<n→b<n'→s b=s' b)(hd:Ip n' v=true):Rel s' n' F' h' v x:=by
 cases v with
 |ptr b o=>
  cases r with
  |ptr h1=>
   have h2:b<n':=Nat.le_of_ble_eq_true hd;rw[ha _ h1 h2];exact .ptr h2
 |sl b o l c op=>
  cases r with
  |sl h1=>
   have h2:b<n':=Nat.le_of_ble_eq_true hd;rw[ha _ h1 h2];exact .sl h2
 |_=>
  rw[r.iR hd];exact .dU hd
theorem vZ{s s':Nat→Nat}{n n':Nat}{F F':Nat→Prop}{h h':Heap}(ha:∀b,b<n→b<n'→s b=s' b):∀{l m:List AV},aT s n F h l m→zE n' l=true→aT s' n' F' h' l m
 |[],m,r,_=>by
  have:m=[]:=List.length_eq_zero_iff.1 r.1.symm;subst this;exact .nil
 |v::l,[],r,_=>by have:=r.1;simp at this
 |v::l,x::m,r,hd=>by
  simp only[zE,Bool.and_eq_true] at hd;exact .cons (Fk (r.2 0 v x rfl rfl) ha hd.1) (vZ ha ⟨by simpa using r.1,fun i a b ha hb=>r.2 (i+1) a b ha hb⟩ hd.2)
theorem TR.fin{l:List bq}{e e':Env}{tr kf:List aK}(t:TR s F g h l e e' tr kf s1 F1 g1 h1):g.next≤g1.next∧∀b,b<g.next→s1 b=s b:=by
 induction t with
 |nil _=>exact⟨Nat.le_refl _,fun _ _=>rfl⟩
 |cons _ _ ho _ _ _ _ _ _ _ _ ih=>exact⟨Nat.le_trans ho.next ih.1,fun b hb=>(ih.2 b (Nat.lt_of_lt_of_le hb ho.next)).trans (ho.bx b hb)⟩
theorem KK{l:List bq}{e e':Env}{tr kf:List aK}(t:TR s F g h l e e' tr kf s1 F1 g1 h1)(z7:HR s0 F0 g0 h0):(∀b,b<g0.next→s1 b=s0 b)→(∀b,F0 b→F b∧h.get b=h0.get b)→∀{n:Nat} {P:Nat→Bool},jJ l=true→Tg P s0 g0.next F0 h0 e e'→yh g0 P l tr n→
  ∀(i:bq) (m':aK) (o:BM),l[n]?=some i→kf[n]?=some m'→i.op=.r o→rI o m'.vals h0=some m'.v:=by
 induction t with
 |nil _=>intro _ _ n P _ _ hw;simp[yh] at hw
 |@cons s F g h s1 F1 g1 h1 s2 F2 g2 h2 e e' i l m m' tr kf hr he ho hmg A0 dY hv A4 hok hoff tl ih=>
  intro hE hK n P hc hP hw;simp only[jJ,Bool.and_eq_true] at hc;cases n with
  |zero=>
   intro j k o hj hk hop;simp only[List.getElem?_cons_zero,Option.some.injEq] at hj hk;subst hj hk;obtain⟨w1,w2,w5⟩:=hw;obtain⟨a1,a2,a3,a4⟩:=hok w2;have q:aT s0 g0.next F0 h0 m.vals m'.vals:=by
    rcases Bool.or_eq_true_iff.1 w1 with w1|w1
    ·rw[hv,A4];exact hP.Cf w1 hc.1.2 a1
    ·exact vZ (fun b qm jh=>((ho.bx b qm).symm.trans (tl.fin.2 b (Nat.lt_of_lt_of_le qm ho.next)).symm).trans (hE b jh)) a2 w1
   rcases w5 with⟨w3,w4⟩|⟨cs,o1,mU⟩
   rotate_left
   ·rw[mU] at q;obtain⟨y,hy,Ct⟩:=q.one;cases Ct with
    |fp hF _ _ _ _=>
     have h5:=(a4.2 o hop).1;rw[hy] at h5⊢;exact CT (HY (a4.2 o hop).2) (hK _ hF).2.symm h5
   have ME:CH (.r o)=true:=hop▸hc.1.1;obtain⟨v',b1,b2⟩:=zq z7 q ME (w4 o hop);rw[b1,KT b2 a3 (fun b qm jh=>(tl.fin.2 b jh).symm.trans (hE b qm)) w3]
  |succ n=>
   intro j k o hj hk hop;refine ih hE (fun b hb=>⟨ho.sub b (hK b hb).1,(ho.j6 hr b (hK b hb).1).trans (hK b hb).2⟩) hc.2 ?_ hw j k o (by simpa using hj) (by simpa using hk) hop;intro u v hu cn;unfold AJ at hu;cases hd:i.dst with
   |none=>
    rw[hd] at hu cn;simp only[Env.put] at cn⊢;exact hP u v hu cn
   |some d=>
    rw[hd] at hu cn;simp only[Env.put] at cn⊢;rw[tU];rw[Tr.bt] at cn;by_cases Qz:u=d
    ·subst Qz;rw[if_pos rfl] at cn⊢;simp only[Nat.beq_refl,cond_true] at hu;cases cn
     cases GX:m.on with
     |false=>
      obtain⟨z1,z2⟩:=hoff GX;rw[z1,z2];exact .undef
     |true=>
      obtain⟨a1,a2,a3,a4⟩:=hok GX;cases Cr:i.op with
      |p o2=>
       rw[Cr] at hu;obtain⟨c1,c2⟩:=a4.1 o2 Cr;have q:aT s0 g0.next F0 h0 m.vals m'.vals:=by rw[hv,A4];exact hP.Cf hu hc.1.2 a1
       have ME:HW o2=true:=by have:=hc.1.1;rw[Cr] at this;exact this
       obtain⟨v',b1,b2⟩:=HS q ME c1;rw[c2] at b1;cases b1
       exact b2
      |r o2=>
       rw[Cr] at hu;simp only[Bool.and_eq_true] at hu;obtain⟨d1,d2⟩:=a4.2 o2 Cr;have q:aT s0 g0.next F0 h0 m.vals m'.vals:=by rw[hv,A4];exact hP.Cf hu.1 hc.1.2 a1
       obtain⟨cs,o1,mU⟩:=JU hu.2;rw[mU] at q d2;have d3:=Ri d2 g0;have ME:CH (.r o2)=true:=by have:=hc.1.1;rw[Cr] at this;exact this
       obtain⟨v',b1,b2⟩:=zq z7 q ME d3;obtain⟨y,hy,Ct⟩:=q.one;cases Ct with
       |fp hF _ _ _ _=>
        rw[hy] at d1 b1;rw[CT (HY d2) (hK _ hF).2.symm d1] at b1;cases b1
        exact b2
      |_=>rw[Cr] at hu;simp at hu
    ·rw[if_neg Qz] at cn⊢;have hb:Nat.beq u d=false:=by
      cases hb:Nat.beq u d with
      |false=>rfl
      |true=>exact absurd (Nat.eq_of_beq_eq_true hb) Qz
     simp only[hb,cond_false] at hu;exact hP u v hu cn
theorem TR.from{l:List bq}{e e':Env}{tr kf:List aK}(t:TR s F g h l e e' tr kf s1 F1 g1 h1):dP tr g1=g∧dP kf h1=h∧HR s F g h:=by
 cases t with
 |nil hr=>exact⟨rfl,rfl,hr⟩
 |cons hr _ _ hg hh=>exact⟨hg,hh,hr⟩
theorem E8{l:List bq}{e e':Env}{tr kf:List aK}(t:TR s F g h l e e' tr kf s1 F1 g1 h1):∀{q:Tr cw} {b:Nat} {x:cw},b<h.next→Tr.get q b=some x→Tr.get (dS l kf q) b=some x:=by
 induction t with
 |nil _=>intro q b x _ hq;exact hq
 |@cons s F g h s1 F1 g1 h1 s2 F2 g2 h2 e e' i l m m' tr kf hr he ho hmg A0 dY hv A4 hok hoff _ ih=>
  intro q b x hb hq;have qm:b<h1.next:=Nat.lt_of_lt_of_le hb ho.hnext;unfold dS;split
  ·refine ih qm ?_;rw[Tr.bt,A0,if_neg (by omega)];exact hq
  ·exact ih qm hq
theorem TR.drop{l:List bq}{e e':Env}{tr kf:List aK}(t:TR s F g h l e e' tr kf s1 F1 g1 h1):∀c,c<tr.length→
  ∃s0 F0 g0 h0 e0 Cc,TR s0 F0 g0 h0 (l.drop c) e0 Cc (tr.drop c) (kf.drop c) s1 F1 g1 h1∧ER s0 g0.next F0 h0 e0 Cc:=by
 induction t with
 |nil _=>intro c hc;simp at hc
 |@cons s F g h s1 F1 g1 h1 s2 F2 g2 h2 e e' i l m m' tr kf hr he ho hmg A0 dY hv A4 hok hoff t ih=>
  intro c hc;cases c with
  |zero=>exact⟨s,F,g,h,e,e',.cons hr he ho hmg A0 dY hv A4 hok hoff t,he⟩
  |succ c=>exact ih c (by simpa using hc)
theorem TR.late{l:List bq}{e e':Env}{tr kf:List aK}(t:TR s F g h l e e' tr kf s1 F1 g1 h1):∀{vals vals':List AV},aT s g.next F h vals vals'→∀c,c<tr.length→
  ∃s0 F0 g0 h0 e0 Cc,TR s0 F0 g0 h0 (l.drop c) e0 Cc (tr.drop c) (kf.drop c) s1 F1 g1 h1∧aT s0 g0.next F0 h0 vals vals'∧∀b,F b→h0.get b=h.get b:=by
 induction t with
 |nil _=>intro _ _ _ c hc;simp at hc
 |@cons s F g h s1 F1 g1 h1 s2 F2 g2 h2 e e' i l m m' tr kf hr he ho hmg A0 dY hv A4 hok hoff t ih=>
  intro vals vals' q c hc;cases c with
  |zero=>exact⟨s,F,g,h,e,e',.cons hr he ho hmg A0 dY hv A4 hok hoff t,q,fun _ _=>rfl⟩
  |succ c=>
   obtain⟨s0,F0,g0,h0,e0,Cc,t0,q0,k0⟩:=ih (q.mono ho.bx ho.next ho.sub (ho.j6 hr)) c (by simpa using hc);exact⟨s0,F0,g0,h0,e0,Cc,t0,q0,fun b hb=>(k0 b (ho.sub b hb)).trans (ho.j6 hr b hb)⟩
theorem TR.at{l:List bq}{e e':Env}{tr kf:List aK}(t:TR s F g h l e e' tr kf s1 F1 g1 h1):∀(k:Nat) (m m':aK),tr[k]?=some m→kf[k]?=some m'→m.on=true→
  ∃s0 F0 g0 h0 e0 Cc,TR s0 F0 g0 h0 (l.drop k) e0 Cc (tr.drop k) (kf.drop k) s1 F1 g1 h1∧aT s0 g0.next F0 h0 m.vals m'.vals∧(∃sK nK FK hK,Rel sK nK FK hK m.v m'.v∧∀b,b<nK→s1 b=sK b)∧∀i o,l[k]?=some i→i.op=.r o→rI o m'.vals h0=some m'.v∧o≠.entry:=by
 induction t with
 |nil _=>intro k m m' hm;simp at hm
 |@cons s F g h s1 F1 g1 h1 s2 F2 g2 h2 e e' i l m m' tr kf hr he ho hmg A0 dY hv A4 hok hoff t ih=>
  intro k n n' hn hn' hno;cases k with
  |zero=>
   simp only[List.getElem?_cons_zero,Option.some.injEq] at hn hn';subst hn hn';obtain⟨a1,a2,a3,a4⟩:=hok hno;exact⟨s,F,g,h,e,e',.cons hr he ho hmg A0 dY hv A4 hok hoff t,a2,⟨_,_,_,_,a3,t.fin.2⟩,fun j o hj hop=>by simp only[List.getElem?_cons_zero,Option.some.injEq] at hj;subst hj;exact⟨(a4.2 o hop).1,HY (a4.2 o hop).2⟩⟩
  |succ k=>
   obtain⟨s0,F0,g0,h0,e0,Cc,t0,q0,p0,r0⟩:=ih k n n' (by simpa using hn) (by simpa using hn') hno;exact⟨s0,F0,g0,h0,e0,Cc,t0,q0,p0,fun j o hj hop=>r0 j o (by simpa using hj) hop⟩
theorem vM{u:Nat→Heap}:∀{l:List bq} {win:List (List Nat)} {tr:List aK},
  (∀(k:Nat) i cs m o,l[k]?=some i→win[k]?=some cs→tr[k]?=some m→i.op=.r o→m.on=true→∀c∈cs,rI o m.vals (u c)=some m.v)→cq u l win tr
 |[],_,_,_=>by simp[cq]
 |_::_,[],_,_=>by simp[cq]
 |_::_,_::_,[],_=>by simp[cq]
 |x::l,cs::win,m::tr,h=>by
  simp only[cq];refine⟨?_,vM fun k i cs m o h1 h2 h3=>h (k+1) i cs m o (by simpa using h1) (by simpa using h2) (by simpa using h3)⟩;split
  ·rename_i o ho;intro dY c hc;exact h 0 x cs m o rfl rfl rfl ho dY c hc
  ·trivial
theorem xP:∀{l:List bq} (c:Nat),jJ l=true→jJ (l.drop c)=true
 |l,0,h=>h
 |[],c+1,h=>rfl
 |i::l,c+1,h=>by
  simp only[jJ,Bool.and_eq_true] at h;exact xP c h.2
theorem TR.len{l:List bq}{e e':Env}{tr kf:List aK}(t:TR s F g h l e e' tr kf s1 F1 g1 h1):tr.length=kf.length∧∀(k:Nat) (m m':aK),tr[k]?=some m→kf[k]?=some m'→m'.on=m.on:=by
 induction t with
 |nil _=>exact⟨rfl,fun k m m' hm=>by simp at hm⟩
 |cons _ _ _ _ _ dY _ _ _ _ _ ih=>
  refine⟨by simp[ih.1],fun k m m' hm hm'=>?_⟩;cases k with
  |zero=>
   simp only[List.getElem?_cons_zero,Option.some.injEq] at hm hm';subst hm hm';exact dY
  |succ k=>exact ih.2 k m m' (by simpa using hm) (by simpa using hm')
theorem ym{l:List bq}{win:List (List Nat)}{e e':Env}{tr kf:List aK}(hc:jJ l=true)(t:TR s F g h l e e' tr kf s1 F1 g1 h1)(hw:yl l win tr g1):lN l win kf h1:=by
 refine vM fun k i cs m' o wz h2 h3 hop dY c eT=>?_;have hk':k<kf.length:=(List.getElem?_eq_some_iff.1 h3).1;have hk:k<tr.length:=by rw[t.len.1];exact hk'
 have hm:tr[k]?=some tr[k]:=List.getElem?_eq_getElem hk;have GX:tr[k].on=true:=by rw[←t.len.2 k _ _ hm h3];exact dY
 have key:∀s0 F0 g0 h0 e0 Cc,TR s0 F0 g0 h0 (l.drop c) e0 Cc (tr.drop c) (kf.drop c) s1 F1 g1 h1→rI o m'.vals h0=some m'.v→rI o m'.vals (cr l kf h1 c)=some m'.v:=by
  intro s0 F0 g0 h0 e0 Cc t0 hr;obtain⟨f1,f2,f3⟩:=t0.from;refine Ea (fun b x hb=>?_) hr;have hlt:b<h0.next:=by
   by_cases hl:b<h0.next
   ·exact hl
   ·rw[f3.qn b (by omega)] at hb;simp at hb
  show Tr.get (dS (l.drop c) (kf.drop c) (dP (kf.drop c) h1).m) b=some x;rw[f2];exact E8 t0 hlt hb
 rcases hw k i cs _ o wz h2 hm hop GX c eT with⟨w1,w2⟩|⟨w1,w2,w5⟩
 ·obtain⟨s0,F0,g0,h0,e0,Cc,t0,er0⟩:=t.drop c (by omega);obtain⟨f1,f2,f3⟩:=t0.from;rw[f1] at w2;have hr:=KK t0 f3 t0.fin.2 (fun b hb=>⟨hb,rfl⟩) (xP c hc) (fun i v _ hv=>er0 i v hv) w2 i m' o (by rw[List.getElem?_drop];rw[show c+(k-c)=k by omega];exact wz) (by rw[List.getElem?_drop];rw[show c+(k-c)=k by omega];exact h3) hop;exact key _ _ _ _ _ _ t0 hr
 ·obtain⟨s0,F0,g0,h0,e0,Cc,t0,q,kL,hrd⟩:=t.at k _ _ hm h3 GX;obtain⟨s2,F2,g2,pN,e2,zY,t2,q2,hkeep⟩:=t0.late q (c-k) (by rw[List.length_drop];omega);simp only[List.drop_drop,show k+(c-k)=c by omega] at t2;obtain⟨f1,f2,f3⟩:=t2.from;rcases w5 with⟨w3,w4⟩|⟨cs1,o1,mU⟩
  rotate_left
  ·obtain⟨h5,hne⟩:=hrd i o wz hop;rw[mU] at q;obtain⟨y,hy,Ct⟩:=q.one;cases Ct with
   |fp hF _ _ _ _=>
    rw[hy] at h5;refine key _ _ _ _ _ _ t2 ?_;rw[hy];exact CT hne (hkeep _ hF) h5
  rw[f1] at w4;have ME:CH (.r o)=true:=by
   have:∀{l:List bq} {k:Nat} {i:bq},jJ l=true→l[k]?=some i→CH i.op=true:=by
    intro l;induction l with
    |nil=>intro k i _ h;simp at h
    |cons j l ih=>
     intro k i hc h;simp only[jJ,Bool.and_eq_true] at hc;cases k with
     |zero=>simp only[List.getElem?_cons_zero,Option.some.injEq] at h;subst h;exact hc.1.1
     |succ k=>exact ih hc.2 (by simpa using h)
   exact hop▸this hc wz
  obtain⟨v',b1,b2⟩:=zq f3 q2 ME w4;refine key _ _ _ _ _ _ t2 ?_;obtain⟨sK,nK,FK,hK,k1,k2⟩:=kL;rw[b1,KT b2 k1 (fun b qm jh=>(k2 b jh).symm.trans (t2.fin.2 b qm)) w3]
end
theorem rZ{l m:List bq}:jJ (l++m)=(jJ l&&jJ m):=by
 induction l with
 |nil=>simp[jJ]
 |cons i l ih=>simp only[List.cons_append,jJ,ih,Bool.and_assoc]
theorem VS.sim(SH:∀f af,fs f=some af→fq af.body=true){B:Nat}{t:Task}{r:jb}(hv:VS fs ms B t r):Sim fs ms B t r:=by
 induction hv with
 |skip=>intro _ hB s F h e' hr he;exact⟨s,F,h,e',.skip,.refl hr hB,he⟩
 |ops _ ih=>
  intro hc hB s F h e' hr he;obtain⟨s1,F1,h1,mz,kf,a1,a2,a3,_⟩:=ih hc s F h e' hr he;exact⟨s1,F1,h1,mz,.ops a1,a2.weaken hB,a3⟩
 |bN hw _ ih=>
  intro hc hB s F h e' hr he;obtain⟨s1,F1,h1,mz,kf,a1,a2,a3,_⟩:=ih hc s F h e' hr he;exact⟨s1,F1,h1,mz,.bN a1 (mE hw),a2.weaken hB,a3⟩
 |KS hw _ ih=>
  intro hc hB s F h e' hr he;obtain⟨s1,F1,h1,mz,kf,a1,a2,a3,a4⟩:=ih hc s F h e' hr he;exact⟨s1,F1,h1,mz,.bN a1 (ym hc a4 hw),a2.weaken hB,a3⟩
 |@w7 B rd a b e g e1 g1 r _ _ qS nj=>
  cases r with
  |code x e2 g2=>
   intro hc hB s F h e' hr he;simp only[fq,Bool.and_eq_true] at hc;obtain⟨s1,F1,h1,mz,a1,a2,a3⟩:=qS hc.1 hB s F h e' hr he;obtain⟨s2,F2,h2,zY,b1,b2,b3⟩:=nj hc.2 a2.next s1 F1 h1 mz a2.hr a3;exact⟨s2,F2,h2,zY,.w7 a1 b1,a2.trans hr b2,b3⟩
  |ops _ _ _=>exact nj.elim
  |val _ _=>exact nj.elim
  |jD _ _=>exact nj.elim
  |post _=>exact nj.elim
 |n9 _ hx qS=>
  intro hc hB s F h e' hr he;simp only[fq,Bool.and_eq_true] at hc;obtain⟨s1,F1,h1,mz,a1,a2,a3⟩:=qS hc.1 hB s F h e' hr he;exact⟨s1,F1,h1,mz,.n9 a1 hx,a2,a3⟩
 |@cond B rd c a b e g t r hao ht _ ih=>
  cases r with
  |code x e2 g2=>
   intro hc hB s F h e' hr he;simp only[fq,Bool.and_eq_true] at hc;have hce:=he.ev hc.1.1 hao;rw[ht] at hce;have eT:fq (bif t then a else b)=true:=by cases t;exact hc.2;exact hc.1.2
   obtain⟨s1,F1,h1,mz,a1,a2,a3⟩:=ih eT hB s F h e' hr he;exact⟨s1,F1,h1,mz,.cond hce.An a1,a2,a3⟩
  |ops _ _ _=>exact ih.elim
  |val _ _=>exact ih.elim
  |jD _ _=>exact ih.elim
  |post _=>exact ih.elim
 |nv _ ih=>
  intro hc hB s F h e' hr he;obtain⟨s1,F1,h1,mz,a1,a2,a3⟩:=ih hc hB s F h e' hr he;exact⟨s1,F1,h1,mz,.nv a1,a2,a3⟩
 |fR _ hx ih=>
  intro hc hB s F h e' hr he;obtain⟨s1,F1,h1,mz,a1,a2,a3⟩:=ih hc hB s F h e' hr he;exact⟨s1,F1,h1,mz,.fR a1 hx,a2,a3⟩
 |@lI B rd c e g e1 g1 r _ _ qS nj=>
  cases r with
  |code x e2 g2=>
   intro hc hB s F h e' hr he;obtain⟨s1,F1,h1,mz,a1,a2,a3⟩:=qS hc hB s F h e' hr he;obtain⟨s2,F2,h2,zY,b1,b2,b3⟩:=nj hc a2.next s1 F1 h1 mz a2.hr a3;exact⟨s2,F2,h2,zY,.lI a1 b1,a2.trans hr b2,b3⟩
  |ops _ _ _=>exact nj.elim
  |val _ _=>exact nj.elim
  |jD _ _=>exact nj.elim
  |post _=>exact nj.elim
 |cQ _ hx qS=>
  intro hc hB s F h e' hr he;obtain⟨s1,F1,h1,mz,a1,a2,a3⟩:=qS hc hB s F h e' hr he;exact⟨s1,F1,h1,mz,.cQ a1 hx,a2,a3⟩
 |exit=>intro _ hB s F h e' hr he;exact⟨s,F,h,e',.exit,.refl hr hB,he⟩
 |ret=>intro _ hB s F h e' hr he;exact⟨s,F,h,e',.ret,.refl hr hB,he⟩
 |@rangeFunc B gg ps a b e g f first aX v g2 st x hao z5 _ hl hst hx ih=>
  intro hc hB s F h e' hr he;simp only[fq,Bool.and_eq_true] at hc;have hg:=he.ev hc.1.1 hao;rw[z5] at hg;generalize hg':e'.ev gg=fv at hg;cases hg with
  |@func _ _ first' _ oq f1 f2 f3 f4=>
   have o1:=so (x:=.loop 0 none e ps a b) (x':=.loop 0 none e' ps a b) hr (.loop he hc.1.2 hc.2);have hs0:kg s g.next h.next g.next=h.next:=by unfold kg;rw[if_pos rfl]
   have hm:∀{l l':List AV},aT s g.next F h l l'→aT (kg s g.next h.next) (g.new (.loop 0 none e ps a b)).next F (h.new (.loop 0 none e' ps a b)) l l':=
    fun q=>q.mono o1.bx o1.next (fun _=>id) (o1.j6 hr)
   have hy:Rel (kg s g.next h.next) (g.new (.loop 0 none e ps a b)).next F (h.new (.loop 0 none e' ps a b)) (.yield g.next) (.yield h.next):=by
    have:=Rel.yield (s:=kg s g.next h.next) (n:=(g.new (.loop 0 none e ps a b)).next) (F:=F) (h:=h.new (.loop 0 none e' ps a b)) (b:=g.next) (by simp);rw[hs0] at this;exact this
   obtain⟨s2,F2,h2,v',b1,b2,b3⟩:=ih _ F _ _ o1.hr ((hm ⟨f1,f2⟩).append (.cons hy (hm ⟨f3,f4⟩)));have o2:=o1.trans hr (b2.weaken (by simp));have BT:s2 g.next=h.next:=by rw[b2.bx _ (by simp),hs0]
   obtain⟨y,Fx,wM⟩:=b2.hr.bD _ _ hl;obtain⟨e3,rfl,Mt,c1,c2⟩:=mV wM;rw[BT] at Fx;obtain⟨st',p',hk⟩:=b2.loops h.next 0 none e' ps a b (by rw[Heap.bU,if_pos rfl]);rw[hk] at Fx;cases Fx
   have iU:=nQ (b:=g.next) (x:=.loop 3 (dH x) e ps a b) (x':=.loop 3 (dH x) e' ps a b) b2.hr (by rw[hl];simp)
    (.loop Mt c1 c2) (by
     intro st p e5 ps5 a5 c5 eT;rw[BT,hk] at eT;cases eT
     exact⟨_,_,rfl⟩)
   rw[BT] at iU;refine⟨s2,F2,_,e',.rangeFunc hg' b1 hk hst hx,(o2.weaken hB).trans hr (iU.weaken (Nat.le_trans hB o2.next)),?_⟩;exact he.mono o2.bx o2.next o2.sub (fun c hc=>by rw[iU.j6 b2.hr c (o2.sub c hc),o2.j6 hr c hc])
 |@Gs B rd c e g i v v' bs r z5 hf _ ih=>
  cases r with
  |code x e2 g2=>
   intro hc hB s F h e' hr he;have o1:=yP hr bs;have sQ:ER s (gZ bs g).next (fun b=>F b∨∃c,c∈bs∧g.get c≠none∧s c=b) h (Tr.set e i v') e':=by
    rw[fO];intro t u hu;rw[Tr.bt] at hu;split at hu
    ·rename_i ht;subst ht;cases hu
     exact pL hf hr (fun _ hb=>.inl hb) (fun b hb hn=>.inr ⟨b,hb,hn,rfl⟩) (he t v z5)
    ·exact(he t u hu).mono (fun _ _=>rfl) (Nat.le_refl _) (fun _ hb=>.inl hb) (fun _ _=>rfl)
   obtain⟨s1,F1,h1,mz,a1,a2,a3⟩:=ih hc (by rw[fO];exact hB) s _ h e' o1.hr sQ;exact⟨s1,F1,h1,mz,a1,(o1.weaken hB).trans hr a2,a3⟩
  |ops _ _ _=>exact ih.elim
  |val _ _=>exact ih.elim
  |jD _ _=>exact ih.elim
  |post _=>exact ih.elim
 |@drop B rd c e g e1 r hd _ ih=>
  cases r with
  |code x e2 g2=>
   intro hc hB s F h e' hr he;exact ih hc hB s F h e' hr (fun i v hv=>he i v (hd i v hv))
  |ops _ _ _=>exact ih.elim
  |val _ _=>exact ih.elim
  |jD _ _=>exact ih.elim
  |post _=>exact ih.elim
 |@gc B rd c e g p e1 g1 r PX _ ih=>
  cases r with
  |code x e2 g2=>
   intro hc hB s F h e' hr he;obtain⟨o1,sQ⟩:=Mg hr he PX;obtain⟨s1,F1,h1,mz,a1,a2,a3⟩:=ih hc PX.next _ F h e' o1.hr sQ;exact⟨s1,F1,h1,mz,a1,o1.trans hr a2,a3⟩
  |ops _ _ _=>exact ih.elim
  |val _ _=>exact ih.elim
  |jD _ _=>exact ih.elim
  |post _=>exact ih.elim
 |nil=>intro _ s F h e' hr he;exact⟨s,F,h,e',[],.nil,.refl hr (Nat.le_refl _),he,.nil hr⟩
 |@off B rd i l e g tr e1 g1 hw _ ih=>
  intro hc s F h e' hr he;simp only[jJ,Bool.and_eq_true] at hc;obtain⟨s1,F1,h1,mz,kf,a1,a2,a3,a4⟩:=ih hc.2 s F h (e'.put i.dst .undef) hr (he.put i.dst .undef);exact⟨s1,F1,h1,mz,_,.off (lR he hw) a1,a2,a3,.cons hr he (.refl hr (Nat.le_refl _)) rfl rfl rfl rfl rfl (fun h=>by simp at h) (fun _=>⟨rfl,rfl⟩) a4⟩
 |@on B rd i l e g v g1 tr e1 g2 hw hj hop _ tY ihl=>
  intro hc s F h e' hr he;simp only[jJ,Bool.and_eq_true] at hc;obtain⟨s1,F1,h1,v',a1,a2,a3⟩:=tY hc.1.1 s F h _ hr (he.Cf hc.1.2 hj);have sQ:ER s1 g1.next F1 h1 (e.put i.dst v) (e'.put i.dst v'):=(he.mono a2.bx a2.next a2.sub (a2.j6 hr)).put i.dst a3;obtain⟨s2,F2,h2,zY,kf,b1,b2,b3,b4⟩:=ihl hc.2 s1 F1 h1 _ a2.hr sQ;refine⟨s2,F2,h2,zY,_,.on (lR he hw) a1 b1,a2.trans hr (b2.weaken a2.next),b3,.cons hr he a2 rfl rfl rfl rfl rfl (fun _=>⟨hj,he.Cf hc.1.2 hj,a3,fun o ho=>?_,fun o ho=>?_⟩) (fun h=>by simp at h) b4⟩
  rotate_left
  ·refine⟨?_,?_⟩
   ·rw[ho] at a1;cases a1 with
    |D1 hp=>exact hp
   ·rw[ho] at hop;cases hop with
    |D1 hp=>exact hp
  refine⟨?_,?_⟩
  ·rw[ho] at hop;cases hop with
   |BV hp=>exact hp
  ·rw[ho] at a1;cases a1 with
   |BV hp=>exact hp
 |BV hp=>
  intro hc s F h vals' hr q;obtain⟨v',a1,a2⟩:=HS q hc hp;exact⟨s,F,h,v',.BV a1,.refl hr (Nat.le_refl _),a2⟩
 |@Kk B rd o vals g x f hp=>
  intro hc s F h vals' hr q;obtain⟨x',a1,a2,a3⟩:=Ly hr q hc hp;have o1:=so hr a2;have hs0:kg s g.next h.next g.next=h.next:=by unfold kg;rw[if_pos rfl]
  refine⟨_,F,_,_,.Kk a1,o1,?_⟩;have:=a3 (s1:=kg s g.next h.next) (n1:=(g.new x).next) (F1:=F) (h1:=h.new x') (by simp);rw[hs0] at this;exact this
 |D1 hp=>
  intro hc s F h vals' hr q;obtain⟨v',a1,a2⟩:=zq hr q hc hp;exact⟨s,F,h,v',.D1 a1,.refl hr (Nat.le_refl _),a2⟩
 |IU hp=>
  intro hc s F h vals' hr q;obtain⟨s1,v',h1,a1,a2,a3⟩:=LO hr q hc hp;exact⟨s1,F,h1,v',.IU a1,a2,a3⟩
 |Q0 hp=>
  intro hc s F h vals' hr q;obtain⟨s1,v',h1,a1,a2,a3⟩:=Jh hr q hp;exact⟨s1,F,h1,v',.Q0 a1,a2,a3⟩
 |lJ _ ih=>
  intro hc s F h vals' hr q;obtain⟨EI,args',rfl,q1,q2⟩:=q.cons_inv;obtain⟨s1,F1,h1,v',a1,a2,a3⟩:=ih s F h EI args' hr q1 q2;exact⟨s1,F1,h1,v',.lJ a1,a2,a3⟩
 |j7 hm _ ih=>
  intro hc s F h vals' hr q;obtain⟨y,args',rfl,q1,q2⟩:=q.cons_inv;cases q1 with
  |iface q1=>
   obtain⟨s1,F1,h1,v',a1,a2,a3⟩:=ih s F h _ hr (.cons q1 q2);exact⟨s1,F1,h1,v',.j7 hm a1,a2,a3⟩
 |cH _ ih=>
  intro s F h EI args' hr q1 q2;cases q1 with
  |func f1 f2 f3 f4=>
   obtain⟨s1,F1,h1,v',a1,a2,a3⟩:=ih s F h _ hr (aT.append ⟨f1,f2⟩ (q2.append ⟨f3,f4⟩));exact⟨s1,F1,h1,v',.cH a1,a2,a3⟩
 |@yield B L args g cu e ps a b e2 g2 cm x e4 g4 It oN hg hlen _ ni _ hx Oe qS nj=>
  intro s F h EI args' hr q1 q2;cases q1 with
  |yield hL=>
   obtain⟨y,hy,wM⟩:=hr.bD _ _ hg;obtain⟨e',rfl,he,c1,c2⟩:=mV wM;obtain⟨s1,F1,h1,zY,a1,a2,a3⟩:=qS c1 (Nat.le_refl _) s F h _ hr (he.fY (ps:=ps) q2);have wQ:s1 L=s L:=a2.bx L hL;obtain⟨y2,Fx,Ml⟩:=a2.hr.bD _ _ ni;obtain⟨e5,rfl,TY,_,_⟩:=mV Ml;obtain⟨st',p',hk⟩:=a2.loops _ _ _ _ _ _ _ hy;rw[wQ] at Fx;rw[hk] at Fx;cases Fx
   have iU:=nQ (b:=L) (x:=.loop 1 cm e ps a b) (x':=.loop 1 cm e' ps a b) a2.hr (by rw[ni];simp) (.loop TY c1 c2) (by
    intro st p e6 Wi a6 c6 eT;rw[wQ,hk] at eT;cases eT
    exact⟨_,_,rfl⟩)
   rw[wQ] at iU;have TF:ER s1 (g2.set L (.loop 1 cm e ps a b)).next F1 (h1.set (s L) (.loop 1 cm e' ps a b)) e2 zY:=a3.mono (fun _ _=>rfl) (Nat.le_refl _) (fun _=>id) (iU.j6 a2.hr)
   obtain⟨s2,F2,h2,To,b1,b2,b3⟩:=nj c2 (Nat.le_trans a2.next (by simp)) s1 F1 _ zY iU.hr TF;have o3:=(a2.trans hr (iU.weaken a2.next)).trans hr b2;have BT:s2 L=s L:=o3.bx L hL;obtain⟨y4,V7,TP⟩:=b2.hr.bD _ _ Oe;obtain⟨e7,rfl,he7,_,_⟩:=mV TP;obtain⟨WC,p'',hk2⟩:=o3.loops _ _ _ _ _ _ _ hy;rw[BT,hk2] at V7;cases V7
   have A3:=nQ (b:=L) (x:=.loop (bif x.bI then 0 else 2) (dH x) e ps a b) (x':=.loop (bif x.bI then 0 else 2) (dH x) e' ps a b) b2.hr (by rw[Oe];simp) (.loop he7 c1 c2) (by
    intro st p e6 Wi a6 c6 eT;rw[BT,hk2] at eT;cases eT
    exact⟨_,_,rfl⟩)
   rw[BT] at A3;exact⟨s2,F2,_,_,.yield hy (by rw[←q2.1];exact hlen) a1 hk b1 hx hk2,o3.trans hr (A3.weaken b2.next),.bool⟩
 |@call B f args g af x e1 g1 vs hf hlen _ hx hres ih=>
  intro s F h args' hr q;obtain⟨s1,F1,h1,mz,a1,a2,a3⟩:=ih (SH f af hf) (Nat.le_refl _) s F h _ hr (ER.start af.ntmps q);obtain⟨vs',b1,b2⟩:=qX a2.hr a3 hres;exact⟨s1,F1,h1,_,.call hf (by rw[←q.1];exact hlen) a1 hx b1,a2,vS b2⟩
 |@jM B gg ps a b e g f first aX v g2 hao z5 _ ih=>
  intro hc hB s F h e' hr he;simp only[fq,Bool.and_eq_true] at hc;have hg:=he.ev hc.1.1 hao;rw[z5] at hg;generalize hg':e'.ev gg=fv at hg;cases hg with
  |@func _ _ first' _ oq f1 f2 f3 f4=>
   have o1:=so (x:=.loop 0 none e ps a b) (x':=.loop 0 none e' ps a b) hr (.loop he hc.1.2 hc.2);have hs0:kg s g.next h.next g.next=h.next:=by unfold kg;rw[if_pos rfl]
   have hm:∀{l l':List AV},aT s g.next F h l l'→aT (kg s g.next h.next) (g.new (.loop 0 none e ps a b)).next F (h.new (.loop 0 none e' ps a b)) l l':=
    fun q=>q.mono o1.bx o1.next (fun _=>id) (o1.j6 hr)
   have hy:Rel (kg s g.next h.next) (g.new (.loop 0 none e ps a b)).next F (h.new (.loop 0 none e' ps a b)) (.yield g.next) (.yield h.next):=by
    have:=Rel.yield (s:=kg s g.next h.next) (n:=(g.new (.loop 0 none e ps a b)).next) (F:=F) (h:=h.new (.loop 0 none e' ps a b)) (b:=g.next) (by simp);rw[hs0] at this;exact this
   obtain⟨s2,F2,h2,b1,b2⟩:=ih _ F _ _ o1.hr ((hm ⟨f1,f2⟩).append (.cons hy (hm ⟨f3,f4⟩)));have o2:=o1.trans hr (b2.weaken (by simp));exact⟨s2,F2,h2,e',.jM hg' b1,o2.weaken hB,he.mono o2.bx o2.next o2.sub (o2.j6 hr)⟩
 |@pe B L args g cu e ps a id A l1 i l2 e2 g2 cm e3 g3 tr e4 g4 v g5 hg hlen _ hna ni DK _ _ hw hj _ qS Hg ihl tY=>
  intro s F h EI args' hr q1 q2;cases q1 with
  |yield hL=>
   obtain⟨y,hy,wM⟩:=hr.bD _ _ hg;obtain⟨e',rfl,he,c1,c2⟩:=mV wM;have c2':=c2;simp only[fq,Bool.and_eq_true] at c2;have gR:jJ (l1++i::l2)=true:=c2.2;rw[rZ,Bool.and_eq_true] at gR;simp only[jJ,Bool.and_eq_true] at gR;obtain⟨s1,F1,h1,zY,a1,a2,a3⟩:=qS c1 (Nat.le_refl _) s F h _ hr (he.fY (ps:=ps) q2);have wQ:s1 L=s L:=a2.bx L hL;obtain⟨y2,Fx,Ml⟩:=a2.hr.bD _ _ ni;obtain⟨e5,rfl,TY,_,_⟩:=mV Ml;obtain⟨st',p',hk⟩:=a2.loops _ _ _ _ _ _ _ hy;rw[wQ] at Fx;rw[hk] at Fx;cases Fx
   have iU:=nQ (b:=L) (x:=.loop 1 cm e ps a (.block id (.seq A (.ops (l1++i::l2))))) (x':=.loop 1 cm e' ps a (.block id (.seq A (.ops (l1++i::l2))))) a2.hr (by rw[ni];simp) (.loop TY c1 c2') (by
    intro st p e6 Wi a6 c6 eT;rw[wQ,hk] at eT;cases eT
    exact⟨_,_,rfl⟩)
   rw[wQ] at iU;have TF:ER s1 (g2.set L (.loop 1 cm e ps a (.block id (.seq A (.ops (l1++i::l2)))))).next F1 (h1.set (s L) (.loop 1 cm e' ps a (.block id (.seq A (.ops (l1++i::l2)))))) e2 zY:=a3.mono (fun _ _=>rfl) (Nat.le_refl _) (fun _ hb=>hb) (iU.j6 a2.hr)
   obtain⟨s2,F2,h2,Jg,b1,b2,b3⟩:=Hg c2.1 (Nat.le_trans a2.next (by simp)) s1 F1 _ zY iU.hr TF;have o3:=(a2.trans hr (iU.weaken a2.next)).trans hr b2;obtain⟨s3,F3,h3,To,kf,d1,d2,d3,_⟩:=ihl gR.1 s2 F2 h2 Jg b2.hr b3;have o4:=o3.trans hr (d2.weaken b2.next);obtain⟨s4,F4,h4,f1,f2⟩:=tY gR.2.1.1 s3 F3 h3 _ d2.hr (d3.Cf gR.2.1.2 hj);exact⟨s4,F4,h4,.pe hy (by rw[←q2.1];exact hlen) a1 hna hk DK b1 d1 (lR d3 hw) f1,o4.trans hr (f2.weaken o4.next)⟩
 |@E7 B rd l1 i l2 e g tr e1 g1 v g2 _ hw hj _ ihl tY=>
  intro hc hB s F h e' hr he;have gR:jJ (l1++i::l2)=true:=hc;rw[rZ,Bool.and_eq_true] at gR;simp only[jJ,Bool.and_eq_true] at gR;obtain⟨s1,F1,h1,mz,kf,a1,a2,a3,_⟩:=ihl gR.1 s F h e' hr he;obtain⟨s2,F2,h2,b1,b2⟩:=tY gR.2.1.1 s1 F1 h1 _ a2.hr (a3.Cf gR.2.1.2 hj);exact⟨s2,F2,h2,mz,.E7 a1 (lR a3 hw) b1,(a2.trans hr (b2.weaken a2.next)).weaken hB,a3.mono b2.bx b2.next b2.sub (b2.j6 a2.hr)⟩
 |@xA B rd l1 i win e g tr e1 g1 v g2 _ wR AZ wO hw hj _ ihl tY=>
  intro hc hB s F h e' hr he;have gR:jJ (l1++[i])=true:=hc;rw[rZ,Bool.and_eq_true] at gR;simp only[jJ,Bool.and_eq_true] at gR;obtain⟨s1,F1,h1,mz,kf,a1,a2,a3,a4⟩:=ihl gR.1 s F h e' hr he;obtain⟨s2,F2,h2,b1,b2⟩:=tY gR.2.1.1 s1 F1 h1 _ a2.hr (a3.Cf gR.2.1.2 hj);have A2:lN l1 (win.take l1.length) kf h1:=by
   rcases wR with wR|wR
   ·refine mE ?_;rw[List.all_eq_true] at wR⊢;exact fun x hx=>wR x (List.mem_of_mem_take hx)
   ·exact ym gR.1 a4 wR
  exact⟨s2,F2,h2,mz,.xA a1 A2 AZ wO (lR a3 hw) b1,(a2.trans hr (b2.weaken a2.next)).weaken hB,a3.mono b2.bx b2.next b2.sub (b2.j6 a2.hr)⟩
 |@pW B rd t x g hp=>
  intro hc s F h vals' hr q;have:=q.iR (l:=[.iface t x]) (by simp[kV,AV.pl,hp]);subst this;exact⟨s,F,h,.pW,.refl hr (Nat.le_refl _)⟩
 |nE _ ih=>
  intro hc s F h vals' hr q;obtain⟨EI,args',rfl,q1,q2⟩:=q.cons_inv;obtain⟨s1,F1,h1,a1,a2⟩:=ih s F h EI args' hr q1 q2;exact⟨s1,F1,h1,.nE a1,a2⟩
 |kT hm _ ih=>
  intro hc s F h vals' hr q;obtain⟨y,args',rfl,q1,q2⟩:=q.cons_inv;cases q1 with
  |iface q1=>
   obtain⟨s1,F1,h1,a1,a2⟩:=ih s F h _ hr (.cons q1 q2);exact⟨s1,F1,h1,.kT hm a1,a2⟩
 |om _ ih=>
  intro s F h EI args' hr q1 q2;cases q1 with
  |func f1 f2 f3 f4=>
   obtain⟨s1,F1,h1,a1,a2⟩:=ih s F h _ hr (aT.append ⟨f1,f2⟩ (q2.append ⟨f3,f4⟩));exact⟨s1,F1,h1,.om a1,a2⟩
 |@uQ B f args g af v e1 g1 hf hlen _ ih=>
  intro s F h args' hr q;obtain⟨s1,F1,h1,mz,a1,a2,a3⟩:=ih (SH f af hf) (Nat.le_refl _) s F h _ hr (ER.start af.ntmps q);exact⟨s1,F1,h1,.uQ hf (by rw[←q.1];exact hlen) a1,a2⟩
 |@tP B f args g af A l1 dst r rest e1 g1 tr e2 g2 gf first aX x e3 g3 ag t l2 eD ye e4 y e5 g5 vs hf hlen GK _ DK _ hj z5 _ hx QB hg AS hbody AW Fw _ kL _ hy hres Hg ihl ihr SZ lW=>
  intro s F h args' hr q;have Cp:=SH f af hf;rw[GK] at Cp;simp only[fq,Bool.and_eq_true] at Cp;obtain⟨hcA,TU,hcR⟩:=Cp;rw[rZ,Bool.and_eq_true] at TU;have PK:kr [r]=true:=by
   have:=TU.2;simp only[jJ,ox,kr,Bool.and_eq_true] at this;simp only[kr,Bool.and_true];exact this.1.2.2.1
  have SC:=SH gf ag hg;rw[hbody] at SC;simp only[fq,jJ,Bool.and_eq_true] at SC;obtain⟨s1,F1,h1,mz,a1,a2,a3⟩:=Hg hcA (Nat.le_refl _) s F h _ hr (ER.start af.ntmps q);obtain⟨s2,F2,h2,zY,kf,b1,b2,b3,_⟩:=ihl TU.1 s1 F1 h1 mz a2.hr a3;have Wf:=a2.trans hr (b2.weaken a2.next);have hfr:=(b3.Cf PK hj).2 0 _ _ rfl rfl;rw[z5] at hfr;obtain⟨s3,F3,h3,Jg,c1,c2,c3⟩:=ihr hcR (Nat.le_refl _) s2 F2 h2 _ b2.hr (b3.put dst .undef);have Wg:=Wf.trans hr (c2.weaken Wf.next);generalize hw:zY.ev r=fw at hfr;cases hfr with
  |func f1 f2 f3 f4=>
   rename_i first' oq;have Cn:aT s2 g2.next F2 h2 (first++aX) (first'++oq):=aT.append ⟨f1,f2⟩ ⟨f3,f4⟩;have hargs:aT s3 g3.next F3 h3 (first++aX) (first'++oq):=⟨Cn.1,fun i x y hx hy=>(Cn.2 i x y hx hy).mono c2.bx c2.next c2.sub (c2.j6 b2.hr)⟩;have hstart:ER s3 g3.next F3 h3 ((Env.start ag.ntmps (first++aX)).put (some t) (nM x)) ((Env.start ag.ntmps (first'++oq)).put (some t) (nM x)):=(ER.start ag.ntmps hargs).put (some t) (.dU QB);obtain⟨s4,F4,h4,To,WD,d1,d2,d3,_⟩:=SZ SC.1.2 s3 F3 h3 _ c2.hr hstart;have hh:=nG kL d1;subst hh;obtain⟨s5,F5,h5,e5',m1,m2,m3⟩:=lW SC.2 (Nat.le_refl _) s4 F4 h4 To d2.hr d3;have QY:=d2.trans c2.hr (m2.weaken d2.next);have hall:=Wg.trans hr (QY.weaken Wg.next);have e35:ER s5 g5.next F5 h5 e3 Jg:=c3.mono QY.bx QY.next QY.sub (QY.j6 c2.hr);obtain⟨vs',p1,p2⟩:=qX m2.hr e35 hres;exact⟨s5,F5,h5,_,.tP hf (by rw[←q.1];exact hlen) GK a1 DK b1 hw c1 hx hg (by rw[←Cn.1];exact AS) hbody AW Fw d1 kL m1 hy p1,hall,vS p2⟩
 |@pure B f args g v g1 v' _ kK hfz hcl' ih=>
  intro s F h args' hr q;have q0:aT s 0 F h args args':=q.clean kK;obtain⟨s1,F1,h1,w,a1,a2,a3⟩:=ih s F h args' (Gh hr) q0;have Ct:Rel s1 g1.next (fun b=>F1 b∨∃c,g1.get c≠none∧s1 c=b) h1 v' w:=pL hfz a2.hr (fun _ hb=>.inl hb) (fun b _ hn=>.inr ⟨b,hn,rfl⟩) a3;have hnew:∀b,(F1 b∨∃c,g1.get c≠none∧s1 c=b)→b<h.next→F b:=by
   rintro b (hb|⟨c,hc,rfl⟩) hlt
   ·rcases a2.new b hb hlt with hf|⟨c,hc,_⟩
    ·exact hf
    ·exact absurd rfl hc
   ·rcases a2.fresh c (Nat.zero_le _) hc with h1|⟨c0,h1,_⟩
    ·omega
    ·exact absurd rfl h1
  have oF:∀b,b<h.next→h1.get b=h.get b:=fun b hb=>a2.wY b hb (fun c hc=>absurd rfl hc);refine⟨s,fun b=>F b∨(h.next≤b∧(F1 b∨∃c,g1.get c≠none∧s1 c=b)),h1,w,a1,?_,?_⟩
  ·refine⟨⟨hr.top,a2.hr.qn,?_,?_,hr.inj,?_⟩,Nat.le_refl _,a2.hnext,fun _ _=>rfl,fun b hb=>.inl hb,?_,fun b hb _=>oF b hb,fun c hc hn=>.inr ⟨c,hn,rfl⟩,fun c _ hn=>hn,?_⟩
   ·rintro b (hb|⟨_,hb|⟨c,hc,rfl⟩⟩)
    ·exact Nat.lt_of_lt_of_le (hr.nA b hb) a2.hnext
    ·exact a2.hr.nA b hb
    ·exact a2.hr.slt hc
   ·intro b x hx;obtain⟨y,hy,wM⟩:=hr.bD b x hx;have hlt:=hr.slt (b:=b) (by rw[hx];simp);exact⟨y,by rw[oF _ hlt];exact hy,wM.mono (fun _ _=>rfl) (Nat.le_refl _) (fun _ hb=>.inl hb) (fun c hc=>oF c (hr.nA c hc))⟩
   ·rintro b hb (hf|⟨hle,_⟩)
    ·exact hr.own b hb hf
    ·have:=hr.slt hb;omega
   ·rintro b (hb|⟨hle,_⟩) hlt
    ·exact .inl hb
    ·omega
   ·intro b st p e ps a c hb;exact a2.loops b st p e ps a c hb
  ·refine(Ct.clean (s':=s) (n':=g.next) hcl').mono (fun _ _=>rfl) (Nat.le_refl _) ?_ (fun _ _=>rfl);intro b hb;by_cases hlt:b<h.next
   ·exact .inl (hnew b hb hlt)
   ·exact .inr ⟨by omega,hb⟩
 |@Po B f args args1 g bs v g1 hfz _ ih=>
  intro s F h args' hr q;have o1:=yP hr bs;have q1:aT s (gZ bs g).next (fun b=>F b∨∃c,c∈bs∧g.get c≠none∧s c=b) h args1 args':=by
   rw[fO];refine⟨by rw[←hfz.1];exact q.1,fun i x y hx hy=>?_⟩;have hl:=(List.getElem?_eq_some_iff.1 hx).1;have hz:=List.getElem?_eq_getElem (l:=args) (i:=i) (by rw[hfz.1];exact hl);exact pL (hfz.2 i _ x hz hx) hr (fun _ hb=>.inl hb) (fun b hb hn=>.inr ⟨b,hb,hn,rfl⟩) (q.2 i _ y hz hy)
  obtain⟨s1,F1,h1,w,a1,a2,a3⟩:=ih s _ h args' o1.hr q1;rw[fO] at a2;exact⟨s1,F1,h1,w,a1,o1.trans hr a2,a3⟩
 |@Pp B f args g bs v v' g1 _ hfz ih=>
  intro s F h args' hr q;obtain⟨s1,F1,h1,w,a1,a2,a3⟩:=ih s F h args' hr q;have o1:=yP a2.hr bs;refine⟨s1,_,h1,w,a1,a2.trans hr (o1.weaken a2.next),?_⟩;rw[fO];exact pL hfz a2.hr (fun _ hb=>.inl hb) (fun b hb hn=>.inr ⟨b,hb,hn,rfl⟩) a3
 |@closed B f args g v h1 hb hpa Oj=>
  intro s F h args' hr q;have ha:=q.iR hpa;subst ha;exact⟨s,F,h,v,.fresh hb (Bq hpa) (CO Oj),.refl hr (Nat.le_refl _),.dU Oj⟩
 |@view B f args args1 g v g1 hfz kK _ kL ih=>
  intro s F h args' hr q;have q1:aT s g.next (fun b=>b<h.next) h args1 args':=by
   refine⟨by rw[←hfz.1];exact q.1,fun i x y hx hy=>?_⟩;have hl:=(List.getElem?_eq_some_iff.1 hx).1;have hz:=List.getElem?_eq_getElem (l:=args) (i:=i) (by rw[hfz.1];exact hl);exact pL (hfz.2 i _ x hz hx) hr (fun b hb=>hr.nA b hb) (fun b _ hn=>hr.slt hn) (q.2 i _ y hz hy)
  have q0:=aT.clean (s':=s) (n':=0) q1 kK;have z7:HR s (fun b=>b<h.next) ⟨0,.nil⟩ h:=by
   refine⟨fun b _=>rfl,hr.qn,fun b hb=>hb,fun b x hx=>?_,fun b c hb=>absurd rfl hb,fun b hb=>absurd rfl hb⟩;have:(none:Option cw)=some x:=hx;simp at this
  obtain⟨s1,F1,h1,w,a1,a2,a3⟩:=ih s (fun b=>b<h.next) h args' z7 q0;have oF:∀b,b<h.next→h1.get b=h.get b:=fun b hb=>a2.wY b hb (fun c hc=>absurd rfl hc);have hw:=a3.iR kL;subst hw;refine⟨s,F,h1,_,a1,?_,.dU kL⟩;refine⟨⟨hr.top,a2.hr.qn,fun b hb=>Nat.lt_of_lt_of_le (hr.nA b hb) a2.hnext,?_,hr.inj,hr.own⟩,Nat.le_refl _,a2.hnext,fun _ _=>rfl,fun b hb=>hb,fun b hb _=>.inl hb,fun b hb _=>oF b hb,fun c hc hn=>.inr ⟨c,hn,rfl⟩,fun c _ hn=>hn,?_⟩
  ·intro b x hx;obtain⟨y,hy,wM⟩:=hr.bD b x hx;have hlt:=hr.slt (b:=b) (by rw[hx];simp);exact⟨y,by rw[oF _ hlt];exact hy,wM.mono (fun _ _=>rfl) (Nat.le_refl _) (fun _ hb=>hb) (fun c hc=>oF c (hr.nA c hc))⟩
  ·intro b st p e ps a c hb;exact a2.loops b st p e ps a c hb
 |@Lt B f args args1 g g1 b0 o len cap op vs wr es hfz kK _ K7 kL ih=>
  intro s F h args' hr q;have q1:aT s g.next (fun b=>b<h.next) h args1 args':=by
   refine⟨by rw[←hfz.1];exact q.1,fun i x y hx hy=>?_⟩;have hl:=(List.getElem?_eq_some_iff.1 hx).1;have hz:=List.getElem?_eq_getElem (l:=args) (i:=i) (by rw[hfz.1];exact hl);exact pL (hfz.2 i _ x hz hx) hr (fun b hb=>hr.nA b hb) (fun b _ hn=>hr.slt hn) (q.2 i _ y hz hy)
  have q0:=aT.clean (s':=s) (n':=0) q1 kK;have z7:HR s (fun b=>b<h.next) ⟨0,.nil⟩ h:=by
   refine⟨fun b _=>rfl,hr.qn,fun b hb=>hb,fun b x hx=>?_,fun b c hb=>absurd rfl hb,fun b hb=>absurd rfl hb⟩;have:(none:Option cw)=some x:=hx;simp at this
  obtain⟨s1,F1,h1,w,a1,a2,a3⟩:=ih s (fun b=>b<h.next) h args' z7 q0;have oF:∀b,b<h.next→h1.get b=h.get b:=fun b hb=>a2.wY b hb (fun c hc=>absurd rfl hc);have hfr:h.next≤s1 b0:=by
   rcases a2.fresh b0 (Nat.zero_le _) (by rw[K7];simp) with h2|⟨c0,h2,_⟩
   ·exact h2
   ·exact absurd rfl h2
  obtain⟨y0,hy0,TO⟩:=a2.hr.bD b0 _ K7;have hs:∀b,b<g.next→(if b=g.next then s1 b0 else s b)=s b:=fun b hb=>if_neg (by omega);refine⟨fun b=>if b=g.next then s1 b0 else s b,F,h1,_,a1,?_,?_⟩
  ·refine⟨⟨?_,a2.hr.qn,fun b hb=>Nat.lt_of_lt_of_le (hr.nA b hb) a2.hnext,?_,?_,?_⟩,by simp,a2.hnext,hs,fun b hb=>hb,fun b hb _=>.inl hb,fun b hb _=>oF b hb,?_,?_,?_⟩
   ·intro b hb;simp only[Heap.HK] at hb;rw[Heap.bU,if_neg (by omega)];exact hr.top b (by omega)
   ·intro b x hx;rw[Heap.bU] at hx;by_cases uA:b=g.next
    ·rw[if_pos uA] at hx;cases hx
     simp only[if_pos uA];refine⟨y0,hy0,?_⟩;cases TO with
     |cells r hw=>
      refine .cells ⟨r.1,fun i x y hx hy=>?_⟩ hw;have QB:=iT kL hx;have:=(r.2 i x y hx hy).iR QB;subst this;exact .dU QB
    ·rw[if_neg uA] at hx;simp only[if_neg uA];obtain⟨y,hy,wM⟩:=hr.bD b x hx;have hlt:=hr.slt (b:=b) (by rw[hx];simp);exact⟨y,by rw[oF _ hlt];exact hy,wM.mono hs (by simp) (fun _ hb=>hb) (fun c hc=>oF c (hr.nA c hc))⟩
   ·intro b c hb hc he;rw[Heap.bU] at hb hc;by_cases h2:b=g.next<;>by_cases h3:c=g.next
    ·rw[h2,h3]
    ·rw[if_neg h3] at hc;simp only[if_pos h2,if_neg h3] at he;have:=hr.slt hc;omega
    ·rw[if_neg h2] at hb;simp only[if_pos h3,if_neg h2] at he;have:=hr.slt hb;omega
    ·rw[if_neg h2] at hb;rw[if_neg h3] at hc;simp only[if_neg h2,if_neg h3] at he;exact hr.inj b c hb hc he
   ·intro b hb hF;rw[Heap.bU] at hb;by_cases h2:b=g.next
    ·simp only[if_pos h2] at hF;have:=hr.nA _ hF;omega
    ·rw[if_neg h2] at hb;simp only[if_neg h2] at hF;exact hr.own b hb hF
   ·intro c hc hn;rw[Heap.bU] at hn;by_cases h2:c=g.next
    ·simp only[if_pos h2];exact .inl hfr
    ·rw[if_neg h2] at hn;exact absurd (hr.top c hc) hn
   ·intro c hc hn;rw[Heap.bU,if_neg (by omega)] at hn;exact hn
   ·intro b st p e ps a c hb;exact a2.loops b st p e ps a c hb
  ·cases a3 with
   |sl hlt=>
    have:=Rel.sl (s:=fun b=>if b=g.next then s1 b0 else s b) (n:=(g.new (.cells vs wr es)).next) (F:=F) (h:=h1) (b:=g.next) (o:=o) (len:=len) (cap:=cap) (op:=op) (by simp);simpa using this
end
end Ads
end Go.Proofs.Ytenafeojcgmnhaa
