/-
  What Vs does is done in Ads.
-/
import Derived.Test.YtepdklcpagielaaVsEff
set_option linter.unusedVariables false
set_option linter.unusedSimpArgs false
namespace Go.Proofs.Ytepdklcpagielaa
namespace Ads
section
variable {s:Nat→Nat} {n:Nat} {F:Nat→Prop} {g h:Heap}
theorem jW{bs:List Nat}:∀{g:Heap} (b:Nat),(ck bs g).get b=if b∈bs then none else g.get b:=by
 induction bs with
 |nil=>intro g b;simp[ck]
 |cons a bs ih=>
  intro g b;simp only[ck,ih,Heap.dn,List.mem_cons];by_cases h1:b∈bs<;>by_cases h2:b=a<;>simp[h1,h2]
theorem dP{bs:List Nat}:∀{g:Heap},(ck bs g).next=g.next:=by
 induction bs with
 |nil=>intro g;rfl
 |cons a bs ih=>intro g;simp only[ck,ih];rfl
theorem sU{B:Nat→Prop}{F':Nat→Prop}{v v':AV}(f:jo B g v v')(r:HR s F g h)(hF:∀b,F b→F' b)(hB:∀b,B b→g.get b≠none→F' (s b)):
  ∀{w:AV},Rel s g.next F h v w→Rel s g.next F' h v' w:=by
 induction f with
 |clean _=>intro w q;exact q.mono (fun _ _=>rfl) (Nat.le_refl _) hF (fun _ _=>rfl)
 |agg h1 _ ih=>
  intro w q;cases q with
  |agg g1 g2=>
   refine .agg (h1▸g1) fun i x y hx hy=>?_;rename_i cs cs' ws _;have hl:=(List.getElem?_eq_some_iff.1 hx).1;have hz:=List.getElem?_eq_getElem (l:=cs) (i:=i) (by rw[h1];exact hl);exact ih i _ x hz hx (g2 i _ y hz hy)
 |cQ h1 _ ih=>
  intro w q;cases q with
  |cQ g1 g2=>
   refine .cQ (h1▸g1) fun i x y hx hy=>?_;rename_i cs cs' ws _;have hl:=(List.getElem?_eq_some_iff.1 hx).1;have hz:=List.getElem?_eq_getElem (l:=cs) (i:=i) (by rw[h1];exact hl);exact ih i _ x hz hx (g2 i _ y hz hy)
 |iface _ ih=>
  intro w q;cases q with
  |iface g1=>exact .iface (ih g1)
 |aD=>intro w q;cases q;exact .jL
 |func h1 _ h2 _ ih1 ih2=>
  intro w q;cases q with
  |func g1 g2 g3 g4=>
   rename_i fn a a' c c' _ _ wa wc;refine .func (h1▸g1) (fun i x y hx hy=>?_) (h2▸g3) fun i x y hx hy=>?_
   ·have hl:=(List.getElem?_eq_some_iff.1 hx).1;have hz:=List.getElem?_eq_getElem (l:=a) (i:=i) (by rw[h1];exact hl);exact ih1 i _ x hz hx (g2 i _ y hz hy)
   ·have hl:=(List.getElem?_eq_some_iff.1 hx).1;have hz:=List.getElem?_eq_getElem (l:=c) (i:=i) (by rw[h2];exact hl);exact ih2 i _ x hz hx (g4 i _ y hz hy)
 |ptr hb hg h1 h2 _ ih=>
  intro w q;cases q with
  |ptr hlt=>
   rename_i b o base o' cs vs wr es _;obtain⟨vs',wr',hy,hr,_⟩:=r.cells hg;refine .fp (hB _ hb (by rw[hg];simp)) hy h1 (by rw[←hr.1];exact h2) fun j c y hc hy'=>?_;have hl:=(List.getElem?_eq_some_iff.1 hy').1;have hz:=List.getElem?_eq_getElem (l:=vs) (i:=base+j) (by rw[hr.1];exact hl);exact ih j c _ hc hz (hr.2 _ _ y hz hy')
 |sl hb hg h1 h2 h3 h4 qQ h5 h6 _ ih=>
  intro w q;cases q with
  |sl hlt=>
   obtain⟨vs',wr',hy,hr,_⟩:=r.cells hg;refine .fz (hB _ hb (by rw[hg];simp)) hy h1 h2 (by rw[←hr.1];exact h3) h4 qQ h5 h6 fun i x j c y hx hc hy'=>?_;rename_i vs _ _ _ _;have hl:=(List.getElem?_eq_some_iff.1 hy').1;have hz:=List.getElem?_eq_getElem (by rw[hr.1];exact hl);exact ih i x j c _ hx hc hz (hr.2 _ _ y hz hy')
theorem Cs(r:HR s F g h)(bs:List Nat):Out g.next s F g h s (fun b=>F b∨∃c,c∈bs∧g.get c≠none∧s c=b) (ck bs g) h:=by
 have Df:∀c,(ck bs g).get c≠none→g.get c≠none∧c∉bs:=by
  intro c hc;rw[jW] at hc;split at hc
  ·exact absurd rfl hc
  ·exact⟨hc,by assumption⟩
 refine⟨⟨?_,r.tH,?_,?_,?_,?_⟩,by rw[dP];exact Nat.le_refl _,Nat.le_refl _,fun _ _=>rfl,fun b hb=>.inl hb,?_,fun _ _ _=>rfl,?_,?_,?_⟩
 ·intro b hb;rw[dP] at hb;rw[jW,r.top b hb];simp
 ·rintro b (hb|⟨c,_,hc,rfl⟩)
  ·exact r.qc b hb
  ·exact r.slt hc
 ·intro b x hx;have:=Df b (by rw[hx];simp);rw[jW,if_neg this.2] at hx;obtain⟨y,hy,hr⟩:=r.cj b x hx;refine⟨y,hy,?_⟩;rw[dP];exact hr.mono (fun _ _=>rfl) (Nat.le_refl _) (fun _ hb=>.inl hb) (fun _ _=>rfl)
 ·intro b c hb hc he;exact r.inj b c (Df b hb).1 (Df c hc).1 he
 ·intro b hb hf;obtain⟨h1,h2⟩:=Df b hb;rcases hf with hf|⟨c,hc,Ns,he⟩
  ·exact r.own b h1 hf
  ·exact h2 (r.inj b c h1 Ns he.symm▸hc)
 ·rintro b (hb|⟨c,hc,Ns,rfl⟩) _
  ·exact .inl hb
  ·exact .inr ⟨c,Ns,rfl⟩
 ·intro c hc hn;exact absurd (r.top c hc) (Df c hn).1
 ·intro c hc hn;exact(Df c hn).1
 ·intro b st p e ps a c hb;exact⟨st,p,hb⟩
theorem Ju{e e':Env}(r:HR s F g h)(he:ER s g.next F h e e'){rv:tF}{v:AV}(hv:oR e g rv=some v):∃v',zy e' h rv=some v'∧Rel s g.next F h v v':=by
 cases rv with
 |tmp t=>exact⟨_,rfl,he t v hv⟩
 |cell a k agg=>
  simp only[zy,oR] at hv⊢;split at hv
  ·rename_i b o hb;have h1:=he a _ hb;generalize e'.get a=w at h1;cases h1 with
   |ptr hlt=>
    cases agg with
    |true=>
     simp only[cond_true,Option.map_eq_some_iff] at hv⊢;obtain⟨cs,hcs,rfl⟩:=hv;obtain⟨cs',h2,h3⟩:=nh r hcs;exact⟨.agg cs',⟨cs',h2,rfl⟩,.agg h3.1 h3.2⟩
    |false=>
     simp only[cond_false] at hv⊢;exact BI r hv
  ·simp at hv
theorem uD{e e':Env}(r:HR s F g h)(he:ER s g.next F h e e'):∀{rs:List tF} {vs:List AV},er e g rs=some vs→∃vs',iu e' h rs=some vs'∧bu s g.next F h vs vs'
 |[],vs,hv=>by simp only[er,Option.some.injEq] at hv;subst hv;exact⟨[],rfl,.nil⟩
 |rv::rs,vs,hv=>by
  simp only[er] at hv;split at hv
  ·rename_i v ws h1 h2;cases hv
   obtain⟨v',a1,a2⟩:=Ju r he h1;obtain⟨ws',b1,b2⟩:=uD r he h2;simp only[iu,a1,b1];exact⟨_,rfl,.cons a2 b2⟩
  ·simp at hv
theorem zE{vs vs':List AV}(q:bu s n F h vs vs'):Rel s n F h (dz vs) (dz vs'):=by
 rcases vs with _|⟨v,_|⟨u,vs⟩⟩
 ·rw[q.oB];exact .undef
 ·obtain⟨y,rfl,hy⟩:=q.one;exact hy
 ·obtain⟨v',l,rfl,h1,h2⟩:=q.cons_inv;obtain⟨u',l',rfl,h3,h4⟩:=h2.cons_inv;have:=h1|>fun h1=>bu.cons h1 (bu.cons h3 h4)
  exact .cQ this.1 this.2
theorem nX{e e':Env}(he:ER s n F h e e'){i:bK}{b:Bool}(hw:dD i e=some b):cz i e'=b:=by
 unfold dD at hw;unfold cz;split at hw
 ·rename_i hg;rw[hg];simpa using hw
 ·rename_i d want hg;rw[hg];show(match e'.get d with|.bool b=>b==want|_=>false)=b;have:=he d;generalize Tr.get e d=x at this hw;generalize e'.get d=y at this;cases x with
  |none=>simp at hw
  |some x=>
   have:=this x rfl;cases this<;>first|(simp only[Option.some.injEq] at hw;exact hw)|(simp at hw)
end
section
variable (fs:Nat→Option aB) (ms:Nat→String→Option Nat)
inductive TR:(Nat→Nat)→(Nat→Prop)→Heap→Heap→List bK→Env→Env→List aQ→List aQ→(Nat→Nat)→(Nat→Prop)→Heap→Heap→Prop
 |nil {s F g h e e'}:HR s F g h→TR s F g h [] e e' [] [] s F g h
 |cons {s F g h s1 F1 g1 h1 s2 F2 g2 h2 e e'} {i:bK} {l:List bK} {m m':aQ} {tr mu}:HR s F g h→ER s g.next F h e e'→Out g.next s F g h s1 F1 g1 h1→m.h=g→m'.h=h→m'.on=m.on→
   m.vals=i.args.map e.ev→m'.vals=i.args.map e'.ev→
   (m.on=true→ey e i.args=true∧bu s g.next F h m.vals m'.vals∧Rel s1 g1.next F1 h1 m.v m'.v∧(∀o,i.op=.p o→pV o m.vals=some m.v∧pI o m'.vals=some m'.v)∧∀o,i.op=.r o→rI o m'.vals h=some m'.v∧rV o m.vals g=some m.v)→
   (m.on=false→m.v=.undef∧m'.v=.undef)→
   TR s1 F1 g1 h1 l (e.put i.dst m.v) (e'.put i.dst m'.v) tr mu s2 F2 g2 h2→TR s F g h (i::l) e e' (m::tr) (m'::mu) s2 F2 g2 h2
def Sim(B:Nat):Task→j8→Prop
 |.code rd c e g,.code x e1 g1=>gr c=true→B≤g.next→∀s F h e',HR s F g h→ER s g.next F h e e'→∃s1 F1 h1 oY,BS fs ms (.code rd c e' h) (.code x oY h1)∧Out B s F g h s1 F1 g1 h1∧ER s1 g1.next F1 h1 e1 oY
 |.ops rd l e g,.ops tr e1 g1=>lq l=true→∀s F h e',HR s F g h→ER s g.next F h e e'→∃s1 F1 h1 oY mu,BS fs ms (.ops rd l e' h) (.ops mu oY h1)∧Out g.next s F g h s1 F1 g1 h1∧ER s1 g1.next F1 h1 e1 oY∧TR s F g h l e e' tr mu s1 F1 g1 h1
 |.op rd o vals g,.val v g1=>Gk o=true→∀s F h vals',HR s F g h→bu s g.next F h vals vals'→∃s1 F1 h1 v',BS fs ms (.op rd o vals' h) (.val v' h1)∧Out g.next s F g h s1 F1 g1 h1∧Rel s1 g1.next F1 h1 v v'
 |.dw fv args g,.val v g1=>∀s F h IS args',HR s F g h→Rel s g.next F h fv IS→bu s g.next F h args args'→∃s1 F1 h1 v',BS fs ms (.dw IS args' h) (.val v' h1)∧Out g.next s F g h s1 F1 g1 h1∧Rel s1 g1.next F1 h1 v v'
 |.call f args g,.val v g1=>∀s F h args',HR s F g h→bu s g.next F h args args'→∃s1 F1 h1 v',BS fs ms (.call f args' h) (.val v' h1)∧Out g.next s F g h s1 F1 g1 h1∧Rel s1 g1.next F1 h1 v v'
 |.op rd o vals g,.kP v g1=>Gk o=true→∀s F h vals',HR s F g h→bu s g.next F h vals vals'→∃s1 F1 h1,BS fs ms (.op rd o vals' h) (.kP v h1)∧Out g.next s F g h s1 F1 g1 h1
 |.dw fv args g,.kP v g1=>∀s F h IS args',HR s F g h→Rel s g.next F h fv IS→bu s g.next F h args args'→∃s1 F1 h1,BS fs ms (.dw IS args' h) (.kP v h1)∧Out g.next s F g h s1 F1 g1 h1
 |.call f args g,.kP v g1=>∀s F h args',HR s F g h→bu s g.next F h args args'→∃s1 F1 h1,BS fs ms (.call f args' h) (.kP v h1)∧Out g.next s F g h s1 F1 g1 h1
 |_,_=>False
end
section
variable {fs:Nat→Option aB} {ms:Nat→String→Option Nat} {s:Nat→Nat} {F:Nat→Prop} {g h:Heap}
theorem vE{p:Nat→Nat}{n n':Nat}{v v':AV}(f:tZ p n' v v'):∀{w:AV},Rel s n F h v' w→Rel (fun b=>s (p b)) n' F h v w:=by
 induction f with
 |cl hc=>intro w q;exact q.clean hc
 |ptr hb=>intro w q;cases q;exact .ptr (s:=fun b=>s (p b)) hb
 |sl hb=>intro w q;cases q;exact .sl (s:=fun b=>s (p b)) hb
 |map hb=>intro w q;cases q;exact .map (s:=fun b=>s (p b)) hb
 |yield hb=>intro w q;cases q;exact .yield (s:=fun b=>s (p b)) hb
 |iface _ ih=>intro w q;cases q with|iface q=>exact .iface (ih q)
 |agg h1 _ ih=>
  intro w q;cases q with
  |agg g1 g2=>
   rename_i cs cs' _ ws;refine .agg (h1.trans g1) fun i x y hx hy=>?_;have hl:=(List.getElem?_eq_some_iff.1 hx).1;have hz:=List.getElem?_eq_getElem (l:=cs') (i:=i) (by rw[←h1];exact hl);exact ih i x _ hx hz (g2 i _ y hz hy)
 |cQ h1 _ ih=>
  intro w q;cases q with
  |cQ g1 g2=>
   rename_i cs cs' _ ws;refine .cQ (h1.trans g1) fun i x y hx hy=>?_;have hl:=(List.getElem?_eq_some_iff.1 hx).1;have hz:=List.getElem?_eq_getElem (l:=cs') (i:=i) (by rw[←h1];exact hl);exact ih i x _ hx hz (g2 i _ y hz hy)
 |func h1 _ h2 _ ih1 ih2=>
  intro w q;cases q with
  |func g1 g2 g3 g4=>
   rename_i fn a a' c c' _ _ wa wc;refine .func (h1.trans g1) (fun i x y hx hy=>?_) (h2.trans g3) fun i x y hx hy=>?_
   ·have hl:=(List.getElem?_eq_some_iff.1 hx).1;have hz:=List.getElem?_eq_getElem (l:=a') (i:=i) (by rw[←h1];exact hl);exact ih1 i x _ hx hz (g2 i _ y hz hy)
   ·have hl:=(List.getElem?_eq_some_iff.1 hx).1;have hz:=List.getElem?_eq_getElem (l:=c') (i:=i) (by rw[←h2];exact hl);exact ih2 i x _ hx hz (g4 i _ y hz hy)
theorem MB{p:Nat→Nat}{n n':Nat}{x y z:dm}(f:mC p n' x y)(q:BR s n F h y z):BR (fun b=>s (p b)) n' F h x z:=by
 cases f with
 |cells h1 h2=>
  rename_i vs vs' wr es;cases q with
  |cells r hw=>
   refine .cells ⟨h1.trans r.1,fun i a b ha hb=>?_⟩ hw;have hl:=(List.getElem?_eq_some_iff.1 ha).1;have hz:=List.getElem?_eq_getElem (l:=vs') (i:=i) (by rw[←h1];exact hl);exact vE (h2 i a _ ha hz) (r.2 i _ b hz hb)
 |map h1 h2=>
  rename_i l l' _ _;cases q with
  |map r=>
   refine .map ⟨h1.trans r.1,fun i a b ha hb=>?_⟩;have hl:=(List.getElem?_eq_some_iff.1 ha).1;have hz:=List.getElem?_eq_getElem (l:=l') (i:=i) (by rw[←h1];exact hl);exact⟨vE (h2 i a _ ha hz).1 (r.2 i _ b hz hb).1,vE (h2 i a _ ha hz).2 (r.2 i _ b hz hb).2⟩
 |loop h1=>
  cases q with
  |loop r c1 c2=>
   refine .loop (fun i v hv=>?_) c1 c2;obtain⟨u,hu,hr⟩:=h1 i v hv;exact vE hr (r i u hu)
theorem Sa{B:Nat}{p:Nat→Nat}{e1 e:Env}{g1:Heap}{e':Env}(r:HR s F g1 h)(he:ER s g1.next F h e1 e')(c:GC B p e1 g1 e g):
  Out B s F g1 h (fun b=>s (p b)) F g h∧ER (fun b=>s (p b)) g.next F h e e':=by
 have hne:∀b,g.get b≠none→g1.get (p b)≠none:=by
  intro b hb;cases hx:g.get b with
  |none=>exact absurd hx hb
  |some x=>
   obtain⟨_,y,hy,_⟩:=c.RB b x hx;rw[hy];simp
 refine⟨⟨⟨?_,r.tH,r.qc,?_,?_,?_⟩,c.next,Nat.le_refl _,fun b hb=>by simp only[c.fix b hb],fun _=>id,fun b hb _=>.inl hb,fun _ _ _=>rfl,?_,?_,fun b st p e ps a c hb=>⟨st,p,hb⟩⟩,?_⟩
 ·intro b hb;cases hx:g.get b with
  |none=>rfl
  |some x=>have:=(c.RB b x hx).1;omega
 ·intro b x hx;obtain⟨_,y,hy,hb⟩:=c.RB b x hx;obtain⟨z,hz,hr⟩:=r.cj _ y hy;exact⟨z,hz,MB hb hr⟩
 ·intro b d hb hd heq;exact c.inj b d hb hd (r.inj _ _ (hne b hb) (hne d hd) heq)
 ·intro b hb;exact r.own _ (hne b hb)
 ·intro d hd hn;exact .inr ⟨p d,hne d hn,rfl⟩
 ·intro d hd hn;have:=hne d hn;rw[c.fix d hd] at this;exact this
 ·intro i v hv;obtain⟨u,hu,hr⟩:=c.slots i v hv;exact vE hr (he i u hu)
theorem oP{u:Nat→Heap}:∀{l:List bK} {win:List (List Nat)} {tr:List aQ},win.all (·.isEmpty)=true→cW u l win tr
 |[],_,_,_=>by simp[cW]
 |_::_,[],_,_=>by simp[cW]
 |_::_,_::_,[],_=>by simp[cW]
 |x::l,cs::win,m::tr,h=>by
  simp only[List.all_cons,Bool.and_eq_true] at h;simp only[cW];refine⟨?_,oP h.2⟩;split
  ·intro _ c hc;rw[List.isEmpty_iff.1 h.1] at hc;simp at hc
  ·trivial
theorem pH{n:Nat}{st:Nat}{cF:Option AX}{e:Env}{ps:List Nat}{a b:AC}{y:dm}(r:BR s n F h (.loop st cF e ps a b) y):
  ∃e',y=.loop st cF e' ps a b∧ER s n F h e e'∧gr a=true∧gr b=true:=by
 cases r with
 |loop h1 h2 h3=>exact⟨_,rfl,h1,h2,h3⟩
theorem KQ(r:HR s F g h):HR s F ⟨0,.nil⟩ h:=by
 refine⟨fun b _=>rfl,r.tH,r.qc,fun b x hx=>?_,fun b c hb=>absurd rfl hb,fun b hb=>absurd rfl hb⟩;have:(none:Option dm)=some x:=hx;simp at this
theorem Gs{D:Dom}:∀{v:AV},v.pl=true→v.bq D:=by
 intro v;refine AV.rec (motive_1:=fun v=>v.pl=true→v.bq D) (motive_2:=fun l=>nk l=true→bE D l) ?_ ?_ ?_ ?_ ?_ ?_ ?_ ?_ ?_ ?_ ?_ ?_ ?_ ?_ ?_ ?_ ?_ ?_ ?_ ?_ ?_ ?_ v
 case refine_11=>
  intro fn first aN ih1 ih2 hp
  simp only[AV.pl,Bool.and_eq_true] at hp;simp only[AV.bq];refine⟨?_,ih1 hp.1.1,ih2 hp.1.2⟩;intro l e;subst e;simp at hp
 case refine_14=>intro t v ih hp;simp only[AV.bq];exact ih (by simpa[AV.pl] using hp)
 case refine_16=>intro cs ih hp;simp only[AV.bq];exact ih (by simpa[AV.pl] using hp)
 case refine_17=>intro cs ih hp;simp only[AV.bq];exact ih (by simpa[AV.pl] using hp)
 case refine_20=>intro b o k hp;simp[AV.pl] at hp
 case refine_21=>intro _;trivial
 case refine_22=>intro x l ih1 ih2 hp;simp only[nk,Bool.and_eq_true] at hp;exact⟨ih1 hp.1,ih2 hp.2⟩
 all_goals (intros;simp_all[AV.pl,AV.bq])
theorem Ez{D:Dom}:∀{l:List AV},nk l=true→bE D l
 |[],_=>trivial
 |x::l,hp=>by simp only[nk,Bool.and_eq_true] at hp;exact⟨Gs hp.1,Ez hp.2⟩
section
variable {s s1:Nat→Nat} {F F1:Nat→Prop} {g h g1 h1:Heap} {s0:Nat→Nat} {F0:Nat→Prop} {g0 h0:Heap} {n0:Nat}
def ZG(P:Nat→Bool)(s:Nat→Nat)(n:Nat)(F:Nat→Prop)(h:Heap)(e e':Env):Prop:=∀i v,P i=true→Tr.get e i=some v→Rel s n F h v (e'.get i)
theorem ZG.FE{P:Nat→Bool}{e e':Env}(r:ZG P s0 n0 F0 h0 e e'):∀{l:List bV},nI P l=true→mI l=true→ey e l=true→bu s0 n0 F0 h0 (l.map e.ev) (l.map e'.ev)
 |[],_,_,_=>.nil
 |.c v::l,hg,hc,hj=>by
  simp only[mI,Bool.and_eq_true] at hc;exact .cons (.eR hc.1) (r.FE hg hc.2 hj)
 |.t i::l,hg,hc,hj=>by
  simp only[mI,Bool.and_eq_true] at hc;simp only[ey,Bool.and_eq_true] at hj;simp only[nI,Bool.and_eq_true] at hg;obtain⟨v,hv⟩:=Option.isSome_iff_exists.1 hj.1;have:=r i v hg.1 hv;rw[←FN hv] at this;exact .cons this (r.FE hg.2 hc.2 hj.2)
theorem My{o:E9}{vals:List AV}{g:Heap}{v:AV}(h:rV o vals g=some v):o≠.entry:=by rintro rfl;simp[rV] at h
theorem Gv{o:E9}{b k:Nat}{h h':Heap}{v:AV}(hne:o≠.entry)(hg:h'.get b=h.get b)(hv:rI o [.ptr b k] h=some v):rI o [.ptr b k] h'=some v:=by
 cases o with
 |bC=>simp only[rI] at hv⊢;unfold Heap.bC Heap.row at hv⊢;rw[hg];exact hv
 |bn n=>simp only[rI] at hv⊢;unfold Heap.bn Heap.row at hv⊢;rw[hg];exact hv
 |entry=>exact absurd rfl hne
 |_=>simp[rI] at hv
theorem Pq{l:List AV}(h:SY l=true):∃cs o,l=[.fp cs o]:=by
 unfold SY at h;split at h
 ·exact⟨_,_,rfl⟩
 ·simp at h
theorem W9{o:E9}{cs:List AV}{k:Nat}{h:Heap}{v:AV}(hv:rV o [.fp cs k] h=some v)(h':Heap):rV o [.fp cs k] h'=some v:=by
 cases o with
 |bC=>exact hv
 |bn n=>exact hv
 |lookup ok z=>simp[rV,rI] at hv
 |toStr=>simp[rV,rI,l1] at hv
 |Mb=>simp[rV,rI] at hv
 |entry=>simp[rV] at hv
theorem QH{s s':Nat→Nat}{n n':Nat}{F F':Nat→Prop}{h h':Heap}{v x y:AV}(r:Rel s n F h v x)(r':Rel s' n' F' h' v y)(ha:∀b,b<n→b<n'→s' b=s b)(hd:v.dt=true):y=x:=by
 cases v with
 |ptr b o=>cases r with|ptr h1=>cases r' with|ptr h2=>rw[ha _ h1 h2]
 |sl b o l c op=>cases r with|sl h1=>cases r' with|sl h2=>rw[ha _ h1 h2]
 |map b=>cases r with|map h1=>cases r' with|map h2=>rw[ha _ h1 h2]
 |yield b=>cases r with|yield h1=>cases r' with|yield h2=>rw[ha _ h1 h2]
 |rest b o k=>cases r with|rest h1=>cases r' with|rest h2=>rw[ha _ h1 h2]
 |_=>rw[r.jO hd,r'.jO hd]
theorem JJ{s s':Nat→Nat}{n n':Nat}{F F':Nat→Prop}{h h':Heap}{v x:AV}(r:Rel s n F h v x)(ha:∀b,b<n→b<n'→s b=s' b)(hd:MV n' v=true):Rel s' n' F' h' v x:=by
 cases v with
 |ptr b o=>
  cases r with
  |ptr h1=>
   have h2:b<n':=Nat.le_of_ble_eq_true hd;rw[ha _ h1 h2];exact .ptr h2
 |sl b o l c op=>
  cases r with
  |sl h1=>
   have h2:b<n':=Nat.le_of_ble_eq_true hd;rw[ha _ h1 h2];exact .sl h2
 |_=>
  rw[r.jO hd];exact .eR hd
theorem zU{s s':Nat→Nat}{n n':Nat}{F F':Nat→Prop}{h h':Heap}(ha:∀b,b<n→b<n'→s b=s' b):∀{l m:List AV},bu s n F h l m→CW n' l=true→bu s' n' F' h' l m
 |[],m,r,_=>by
  have:m=[]:=List.length_eq_zero_iff.1 r.1.symm;subst this;exact .nil
 |v::l,[],r,_=>by have:=r.1;simp at this
 |v::l,x::m,r,hd=>by
  simp only[CW,Bool.and_eq_true] at hd;exact .cons (JJ (r.2 0 v x rfl rfl) ha hd.1) (zU ha ⟨by simpa using r.1,fun i a b ha hb=>r.2 (i+1) a b ha hb⟩ hd.2)
theorem TR.fin{l:List bK}{e e':Env}{tr mu:List aQ}(t:TR s F g h l e e' tr mu s1 F1 g1 h1):g.next≤g1.next∧∀b,b<g.next→s1 b=s b:=by
 induction t with
 |nil _=>exact⟨Nat.le_refl _,fun _ _=>rfl⟩
 |cons _ _ ho _ _ _ _ _ _ _ _ ih=>exact⟨Nat.le_trans ho.next ih.1,fun b hb=>(ih.2 b (Nat.lt_of_lt_of_le hb ho.next)).trans (ho.bS b hb)⟩
theorem QA{l:List bK}{e e':Env}{tr mu:List aQ}(t:TR s F g h l e e' tr mu s1 F1 g1 h1)(Nw:HR s0 F0 g0 h0):(∀b,b<g0.next→s1 b=s0 b)→(∀b,F0 b→F b∧h.get b=h0.get b)→∀{n:Nat} {P:Nat→Bool},lq l=true→ZG P s0 g0.next F0 h0 e e'→B6 g0 P l tr n→
  ∀(i:bK) (m':aQ) (o:E9),l[n]?=some i→mu[n]?=some m'→i.op=.r o→rI o m'.vals h0=some m'.v:=by
 induction t with
 |nil _=>intro _ _ n P _ _ hw;simp[B6] at hw
 |@cons s F g h s1 F1 g1 h1 s2 F2 g2 h2 e e' i l m m' tr mu hr he ho hmg D8 dZ hv BB hok hoff tl ih=>
  intro hE hK n P hc hP hw;simp only[lq,Bool.and_eq_true] at hc;cases n with
  |zero=>
   intro j k o hj hk hop;simp only[List.getElem?_cons_zero,Option.some.injEq] at hj hk;subst hj hk;obtain⟨w1,w2,w5⟩:=hw;obtain⟨a1,a2,a3,a4⟩:=hok w2;have q:bu s0 g0.next F0 h0 m.vals m'.vals:=by
    rcases Bool.or_eq_true_iff.1 w1 with w1|w1
    ·rw[hv,BB];exact hP.FE w1 hc.1.2 a1
    ·exact zU (fun b ox iH=>((ho.bS b ox).symm.trans (tl.fin.2 b (Nat.lt_of_lt_of_le ox ho.next)).symm).trans (hE b iH)) a2 w1
   rcases w5 with⟨w3,w4⟩|⟨cs,o1,pq⟩
   rotate_left
   ·rw[pq] at q;obtain⟨y,hy,F6⟩:=q.one;cases F6 with
    |fp hF _ _ _ _=>
     have h5:=(a4.2 o hop).1;rw[hy] at h5⊢;exact Gv (My (a4.2 o hop).2) (hK _ hF).2.symm h5
   have SB:Gk (.r o)=true:=hop▸hc.1.1;obtain⟨v',b1,b2⟩:=CQ Nw q SB (w4 o hop);rw[b1,QH b2 a3 (fun b ox iH=>(tl.fin.2 b iH).symm.trans (hE b ox)) w3]
  |succ n=>
   intro j k o hj hk hop;refine ih hE (fun b hb=>⟨ho.sub b (hK b hb).1,(ho.mc hr b (hK b hb).1).trans (hK b hb).2⟩) hc.2 ?_ hw j k o (by simpa using hj) (by simpa using hk) hop;intro u v hu cS;unfold DZ at hu;cases hd:i.dst with
   |none=>
    rw[hd] at hu cS;simp only[Env.put] at cS⊢;exact hP u v hu cS
   |some d=>
    rw[hd] at hu cS;simp only[Env.put] at cS⊢;rw[xj];rw[Tr.bP] at cS;by_cases Wn:u=d
    ·subst Wn;rw[if_pos rfl] at cS⊢;simp only[Nat.beq_refl,cond_true] at hu;cases cS
     cases Lw:m.on with
     |false=>
      obtain⟨z1,z2⟩:=hoff Lw;rw[z1,z2];exact .undef
     |true=>
      obtain⟨a1,a2,a3,a4⟩:=hok Lw;cases FZ:i.op with
      |p o2=>
       rw[FZ] at hu;obtain⟨c1,c2⟩:=a4.1 o2 FZ;have q:bu s0 g0.next F0 h0 m.vals m'.vals:=by rw[hv,BB];exact hP.FE hu hc.1.2 a1
       have SB:Mx o2=true:=by have:=hc.1.1;rw[FZ] at this;exact this
       obtain⟨v',b1,b2⟩:=Mu q SB c1;rw[c2] at b1;cases b1
       exact b2
      |r o2=>
       rw[FZ] at hu;simp only[Bool.and_eq_true] at hu;obtain⟨d1,d2⟩:=a4.2 o2 FZ;have q:bu s0 g0.next F0 h0 m.vals m'.vals:=by rw[hv,BB];exact hP.FE hu.1 hc.1.2 a1
       obtain⟨cs,o1,pq⟩:=Pq hu.2;rw[pq] at q d2;have d3:=W9 d2 g0;have SB:Gk (.r o2)=true:=by have:=hc.1.1;rw[FZ] at this;exact this
       obtain⟨v',b1,b2⟩:=CQ Nw q SB d3;obtain⟨y,hy,F6⟩:=q.one;cases F6 with
       |fp hF _ _ _ _=>
        rw[hy] at d1 b1;rw[Gv (My d2) (hK _ hF).2.symm d1] at b1;cases b1
        exact b2
      |_=>rw[FZ] at hu;simp at hu
    ·rw[if_neg Wn] at cS⊢;have hb:Nat.beq u d=false:=by
      cases hb:Nat.beq u d with
      |false=>rfl
      |true=>exact absurd (Nat.eq_of_beq_eq_true hb) Wn
     simp only[hb,cond_false] at hu;exact hP u v hu cS
theorem TR.from{l:List bK}{e e':Env}{tr mu:List aQ}(t:TR s F g h l e e' tr mu s1 F1 g1 h1):eO tr g1=g∧eO mu h1=h∧HR s F g h:=by
 cases t with
 |nil hr=>exact⟨rfl,rfl,hr⟩
 |cons hr _ _ hg hh=>exact⟨hg,hh,hr⟩
theorem Jj{l:List bK}{e e':Env}{tr mu:List aQ}(t:TR s F g h l e e' tr mu s1 F1 g1 h1):∀{q:Tr dm} {b:Nat} {x:dm},b<h.next→Tr.get q b=some x→Tr.get (fJ l mu q) b=some x:=by
 induction t with
 |nil _=>intro q b x _ hq;exact hq
 |@cons s F g h s1 F1 g1 h1 s2 F2 g2 h2 e e' i l m m' tr mu hr he ho hmg D8 dZ hv BB hok hoff _ ih=>
  intro q b x hb hq;have ox:b<h1.next:=Nat.lt_of_lt_of_le hb ho.hnext;unfold fJ;split
  ·refine ih ox ?_;rw[Tr.bP,D8,if_neg (by omega)];exact hq
  ·exact ih ox hq
theorem TR.drop{l:List bK}{e e':Env}{tr mu:List aQ}(t:TR s F g h l e e' tr mu s1 F1 g1 h1):∀c,c<tr.length→
  ∃s0 F0 g0 h0 e0 FC,TR s0 F0 g0 h0 (l.drop c) e0 FC (tr.drop c) (mu.drop c) s1 F1 g1 h1∧ER s0 g0.next F0 h0 e0 FC:=by
 induction t with
 |nil _=>intro c hc;simp at hc
 |@cons s F g h s1 F1 g1 h1 s2 F2 g2 h2 e e' i l m m' tr mu hr he ho hmg D8 dZ hv BB hok hoff t ih=>
  intro c hc;cases c with
  |zero=>exact⟨s,F,g,h,e,e',.cons hr he ho hmg D8 dZ hv BB hok hoff t,he⟩
  |succ c=>exact ih c (by simpa using hc)
theorem TR.late{l:List bK}{e e':Env}{tr mu:List aQ}(t:TR s F g h l e e' tr mu s1 F1 g1 h1):∀{vals vals':List AV},bu s g.next F h vals vals'→∀c,c<tr.length→
  ∃s0 F0 g0 h0 e0 FC,TR s0 F0 g0 h0 (l.drop c) e0 FC (tr.drop c) (mu.drop c) s1 F1 g1 h1∧bu s0 g0.next F0 h0 vals vals'∧∀b,F b→h0.get b=h.get b:=by
 induction t with
 |nil _=>intro _ _ _ c hc;simp at hc
 |@cons s F g h s1 F1 g1 h1 s2 F2 g2 h2 e e' i l m m' tr mu hr he ho hmg D8 dZ hv BB hok hoff t ih=>
  intro vals vals' q c hc;cases c with
  |zero=>exact⟨s,F,g,h,e,e',.cons hr he ho hmg D8 dZ hv BB hok hoff t,q,fun _ _=>rfl⟩
  |succ c=>
   obtain⟨s0,F0,g0,h0,e0,FC,t0,q0,k0⟩:=ih (q.mono ho.bS ho.next ho.sub (ho.mc hr)) c (by simpa using hc);exact⟨s0,F0,g0,h0,e0,FC,t0,q0,fun b hb=>(k0 b (ho.sub b hb)).trans (ho.mc hr b hb)⟩
theorem TR.at{l:List bK}{e e':Env}{tr mu:List aQ}(t:TR s F g h l e e' tr mu s1 F1 g1 h1):∀(k:Nat) (m m':aQ),tr[k]?=some m→mu[k]?=some m'→m.on=true→
  ∃s0 F0 g0 h0 e0 FC,TR s0 F0 g0 h0 (l.drop k) e0 FC (tr.drop k) (mu.drop k) s1 F1 g1 h1∧bu s0 g0.next F0 h0 m.vals m'.vals∧(∃sK nK FK hK,Rel sK nK FK hK m.v m'.v∧∀b,b<nK→s1 b=sK b)∧∀i o,l[k]?=some i→i.op=.r o→rI o m'.vals h0=some m'.v∧o≠.entry:=by
 induction t with
 |nil _=>intro k m m' hm;simp at hm
 |@cons s F g h s1 F1 g1 h1 s2 F2 g2 h2 e e' i l m m' tr mu hr he ho hmg D8 dZ hv BB hok hoff t ih=>
  intro k n n' hn hn' hno;cases k with
  |zero=>
   simp only[List.getElem?_cons_zero,Option.some.injEq] at hn hn';subst hn hn';obtain⟨a1,a2,a3,a4⟩:=hok hno;exact⟨s,F,g,h,e,e',.cons hr he ho hmg D8 dZ hv BB hok hoff t,a2,⟨_,_,_,_,a3,t.fin.2⟩,fun j o hj hop=>by simp only[List.getElem?_cons_zero,Option.some.injEq] at hj;subst hj;exact⟨(a4.2 o hop).1,My (a4.2 o hop).2⟩⟩
  |succ k=>
   obtain⟨s0,F0,g0,h0,e0,FC,t0,q0,p0,r0⟩:=ih k n n' (by simpa using hn) (by simpa using hn') hno;exact⟨s0,F0,g0,h0,e0,FC,t0,q0,p0,fun j o hj hop=>r0 j o (by simpa using hj) hop⟩
theorem zv{u:Nat→Heap}:∀{l:List bK} {win:List (List Nat)} {tr:List aQ},
  (∀(k:Nat) i cs m o,l[k]?=some i→win[k]?=some cs→tr[k]?=some m→i.op=.r o→m.on=true→∀c∈cs,rI o m.vals (u c)=some m.v)→cW u l win tr
 |[],_,_,_=>by simp[cW]
 |_::_,[],_,_=>by simp[cW]
 |_::_,_::_,[],_=>by simp[cW]
 |x::l,cs::win,m::tr,h=>by
  simp only[cW];refine⟨?_,zv fun k i cs m o h1 h2 h3=>h (k+1) i cs m o (by simpa using h1) (by simpa using h2) (by simpa using h3)⟩;split
  ·rename_i o ho;intro dZ c hc;exact h 0 x cs m o rfl rfl rfl ho dZ c hc
  ·trivial
theorem BD:∀{l:List bK} (c:Nat),lq l=true→lq (l.drop c)=true
 |l,0,h=>h
 |[],c+1,h=>rfl
 |i::l,c+1,h=>by
  simp only[lq,Bool.and_eq_true] at h;exact BD c h.2
theorem TR.len{l:List bK}{e e':Env}{tr mu:List aQ}(t:TR s F g h l e e' tr mu s1 F1 g1 h1):tr.length=mu.length∧∀(k:Nat) (m m':aQ),tr[k]?=some m→mu[k]?=some m'→m'.on=m.on:=by
 induction t with
 |nil _=>exact⟨rfl,fun k m m' hm=>by simp at hm⟩
 |cons _ _ _ _ _ dZ _ _ _ _ _ ih=>
  refine⟨by simp[ih.1],fun k m m' hm hm'=>?_⟩;cases k with
  |zero=>
   simp only[List.getElem?_cons_zero,Option.some.injEq] at hm hm';subst hm hm';exact dZ
  |succ k=>exact ih.2 k m m' (by simpa using hm) (by simpa using hm')
theorem B8{l:List bK}{win:List (List Nat)}{e e':Env}{tr mu:List aQ}(hc:lq l=true)(t:TR s F g h l e e' tr mu s1 F1 g1 h1)(hw:xF l win tr g1):nR l win mu h1:=by
 refine zv fun k i cs m' o La h2 h3 hop dZ c fh=>?_;have hk':k<mu.length:=(List.getElem?_eq_some_iff.1 h3).1;have hk:k<tr.length:=by rw[t.len.1];exact hk'
 have hm:tr[k]?=some tr[k]:=List.getElem?_eq_getElem hk;have Lw:tr[k].on=true:=by rw[←t.len.2 k _ _ hm h3];exact dZ
 have key:∀s0 F0 g0 h0 e0 FC,TR s0 F0 g0 h0 (l.drop c) e0 FC (tr.drop c) (mu.drop c) s1 F1 g1 h1→rI o m'.vals h0=some m'.v→rI o m'.vals (cY l mu h1 c)=some m'.v:=by
  intro s0 F0 g0 h0 e0 FC t0 hr;obtain⟨f1,f2,f3⟩:=t0.from;refine HM (fun b x hb=>?_) hr;have hlt:b<h0.next:=by
   by_cases hl:b<h0.next
   ·exact hl
   ·rw[f3.tH b (by omega)] at hb;simp at hb
  show Tr.get (fJ (l.drop c) (mu.drop c) (eO (mu.drop c) h1).m) b=some x;rw[f2];exact Jj t0 hlt hb
 rcases hw k i cs _ o La h2 hm hop Lw c fh with⟨w1,w2⟩|⟨w1,w2,w5⟩
 ·obtain⟨s0,F0,g0,h0,e0,FC,t0,er0⟩:=t.drop c (by omega);obtain⟨f1,f2,f3⟩:=t0.from;rw[f1] at w2;have hr:=QA t0 f3 t0.fin.2 (fun b hb=>⟨hb,rfl⟩) (BD c hc) (fun i v _ hv=>er0 i v hv) w2 i m' o (by rw[List.getElem?_drop];rw[show c+(k-c)=k by omega];exact La) (by rw[List.getElem?_drop];rw[show c+(k-c)=k by omega];exact h3) hop;exact key _ _ _ _ _ _ t0 hr
 ·obtain⟨s0,F0,g0,h0,e0,FC,t0,q,m9,hrd⟩:=t.at k _ _ hm h3 Lw;obtain⟨s2,F2,g2,rF,e2,Cp,t2,q2,hkeep⟩:=t0.late q (c-k) (by rw[List.length_drop];omega);simp only[List.drop_drop,show k+(c-k)=c by omega] at t2;obtain⟨f1,f2,f3⟩:=t2.from;rcases w5 with⟨w3,w4⟩|⟨cs1,o1,pq⟩
  rotate_left
  ·obtain⟨h5,hne⟩:=hrd i o La hop;rw[pq] at q;obtain⟨y,hy,F6⟩:=q.one;cases F6 with
   |fp hF _ _ _ _=>
    rw[hy] at h5;refine key _ _ _ _ _ _ t2 ?_;rw[hy];exact Gv hne (hkeep _ hF) h5
  rw[f1] at w4;have SB:Gk (.r o)=true:=by
   have:∀{l:List bK} {k:Nat} {i:bK},lq l=true→l[k]?=some i→Gk i.op=true:=by
    intro l;induction l with
    |nil=>intro k i _ h;simp at h
    |cons j l ih=>
     intro k i hc h;simp only[lq,Bool.and_eq_true] at hc;cases k with
     |zero=>simp only[List.getElem?_cons_zero,Option.some.injEq] at h;subst h;exact hc.1.1
     |succ k=>exact ih hc.2 (by simpa using h)
   exact hop▸this hc La
  obtain⟨v',b1,b2⟩:=CQ f3 q2 SB w4;refine key _ _ _ _ _ _ t2 ?_;obtain⟨sK,nK,FK,hK,k1,k2⟩:=m9;rw[b1,QH b2 k1 (fun b ox iH=>(k2 b iH).symm.trans (t2.fin.2 b ox)) w3]
end
theorem vg{l m:List bK}:lq (l++m)=(lq l&&lq m):=by
 induction l with
 |nil=>simp[lq]
 |cons i l ih=>simp only[List.cons_append,lq,ih,Bool.and_assoc]
theorem VS.sim(Q6:∀f af,fs f=some af→gr af.body=true){B:Nat}{t:Task}{r:j8}(hv:VS fs ms B t r):Sim fs ms B t r:=by
 induction hv with
 |skip=>intro _ hB s F h e' hr he;exact⟨s,F,h,e',.skip,.refl hr hB,he⟩
 |ops _ ih=>
  intro hc hB s F h e' hr he;obtain⟨s1,F1,h1,oY,mu,a1,a2,a3,_⟩:=ih hc s F h e' hr he;exact⟨s1,F1,h1,oY,.ops a1,a2.weaken hB,a3⟩
 |bH hw _ ih=>
  intro hc hB s F h e' hr he;obtain⟨s1,F1,h1,oY,mu,a1,a2,a3,_⟩:=ih hc s F h e' hr he;exact⟨s1,F1,h1,oY,.bH a1 (oP hw),a2.weaken hB,a3⟩
 |KK hw _ ih=>
  intro hc hB s F h e' hr he;obtain⟨s1,F1,h1,oY,mu,a1,a2,a3,a4⟩:=ih hc s F h e' hr he;exact⟨s1,F1,h1,oY,.bH a1 (B8 hc a4 hw),a2.weaken hB,a3⟩
 |@AL B rd a b e g e1 g1 r _ _ ux pS=>
  cases r with
  |code x e2 g2=>
   intro hc hB s F h e' hr he;simp only[gr,Bool.and_eq_true] at hc;obtain⟨s1,F1,h1,oY,a1,a2,a3⟩:=ux hc.1 hB s F h e' hr he;obtain⟨s2,F2,h2,Cp,b1,b2,b3⟩:=pS hc.2 a2.next s1 F1 h1 oY a2.hr a3;exact⟨s2,F2,h2,Cp,.AL a1 b1,a2.trans hr b2,b3⟩
  |ops _ _ _=>exact pS.elim
  |val _ _=>exact pS.elim
  |kP _ _=>exact pS.elim
  |post _=>exact pS.elim
 |qS _ hx ux=>
  intro hc hB s F h e' hr he;simp only[gr,Bool.and_eq_true] at hc;obtain⟨s1,F1,h1,oY,a1,a2,a3⟩:=ux hc.1 hB s F h e' hr he;exact⟨s1,F1,h1,oY,.qS a1 hx,a2,a3⟩
 |@cond B rd c a b e g t r hao ht _ ih=>
  cases r with
  |code x e2 g2=>
   intro hc hB s F h e' hr he;simp only[gr,Bool.and_eq_true] at hc;have hce:=he.ev hc.1.1 hao;rw[ht] at hce;have fh:gr (bif t then a else b)=true:=by cases t;exact hc.2;exact hc.1.2
   obtain⟨s1,F1,h1,oY,a1,a2,a3⟩:=ih fh hB s F h e' hr he;exact⟨s1,F1,h1,oY,.cond hce.Dv a1,a2,a3⟩
  |ops _ _ _=>exact ih.elim
  |val _ _=>exact ih.elim
  |kP _ _=>exact ih.elim
  |post _=>exact ih.elim
 |pX _ ih=>
  intro hc hB s F h e' hr he;obtain⟨s1,F1,h1,oY,a1,a2,a3⟩:=ih hc hB s F h e' hr he;exact⟨s1,F1,h1,oY,.pX a1,a2,a3⟩
 |gE _ hx ih=>
  intro hc hB s F h e' hr he;obtain⟨s1,F1,h1,oY,a1,a2,a3⟩:=ih hc hB s F h e' hr he;exact⟨s1,F1,h1,oY,.gE a1 hx,a2,a3⟩
 |@nP B rd c e g e1 g1 r _ _ ux pS=>
  cases r with
  |code x e2 g2=>
   intro hc hB s F h e' hr he;obtain⟨s1,F1,h1,oY,a1,a2,a3⟩:=ux hc hB s F h e' hr he;obtain⟨s2,F2,h2,Cp,b1,b2,b3⟩:=pS hc a2.next s1 F1 h1 oY a2.hr a3;exact⟨s2,F2,h2,Cp,.nP a1 b1,a2.trans hr b2,b3⟩
  |ops _ _ _=>exact pS.elim
  |val _ _=>exact pS.elim
  |kP _ _=>exact pS.elim
  |post _=>exact pS.elim
 |dJ _ hx ux=>
  intro hc hB s F h e' hr he;obtain⟨s1,F1,h1,oY,a1,a2,a3⟩:=ux hc hB s F h e' hr he;exact⟨s1,F1,h1,oY,.dJ a1 hx,a2,a3⟩
 |exit=>intro _ hB s F h e' hr he;exact⟨s,F,h,e',.exit,.refl hr hB,he⟩
 |ret=>intro _ hB s F h e' hr he;exact⟨s,F,h,e',.ret,.refl hr hB,he⟩
 |@rangeFunc B gg ps a b e g f first aN v g2 st x hao De _ hl hst hx ih=>
  intro hc hB s F h e' hr he;simp only[gr,Bool.and_eq_true] at hc;have hg:=he.ev hc.1.1 hao;rw[De] at hg;generalize hg':e'.ev gg=fv at hg;cases hg with
  |@func _ _ first' _ q8 f1 f2 f3 f4=>
   have o1:=vq (x:=.loop 0 none e ps a b) (x':=.loop 0 none e' ps a b) hr (.loop he hc.1.2 hc.2);have hs0:mz s g.next h.next g.next=h.next:=by unfold mz;rw[if_pos rfl]
   have hm:∀{l l':List AV},bu s g.next F h l l'→bu (mz s g.next h.next) (g.new (.loop 0 none e ps a b)).next F (h.new (.loop 0 none e' ps a b)) l l':=
    fun q=>q.mono o1.bS o1.next (fun _=>id) (o1.mc hr)
   have hy:Rel (mz s g.next h.next) (g.new (.loop 0 none e ps a b)).next F (h.new (.loop 0 none e' ps a b)) (.yield g.next) (.yield h.next):=by
    have:=Rel.yield (s:=mz s g.next h.next) (n:=(g.new (.loop 0 none e ps a b)).next) (F:=F) (h:=h.new (.loop 0 none e' ps a b)) (b:=g.next) (by simp);rw[hs0] at this;exact this
   obtain⟨s2,F2,h2,v',b1,b2,b3⟩:=ih _ F _ _ o1.hr ((hm ⟨f1,f2⟩).append (.cons hy (hm ⟨f3,f4⟩)));have o2:=o1.trans hr (b2.weaken (by simp));have Nx:s2 g.next=h.next:=by rw[b2.bS _ (by simp),hs0]
   obtain⟨y,LJ,Ax⟩:=b2.hr.cj _ _ hl;obtain⟨e3,rfl,he3,c1,c2⟩:=pH Ax;rw[Nx] at LJ;obtain⟨st',p',hk⟩:=b2.loops h.next 0 none e' ps a b (by rw[Heap.cB,if_pos rfl]);rw[hk] at LJ;cases LJ
   have gB:=qx (b:=g.next) (x:=.loop 3 (eJ x) e ps a b) (x':=.loop 3 (eJ x) e' ps a b) b2.hr (by rw[hl];simp)
    (.loop he3 c1 c2) (by
     intro st p e5 ps5 a5 c5 fh;rw[Nx,hk] at fh;cases fh
     exact⟨_,_,rfl⟩)
   rw[Nx] at gB;refine⟨s2,F2,_,e',.rangeFunc hg' b1 hk hst hx,(o2.weaken hB).trans hr (gB.weaken (Nat.le_trans hB o2.next)),?_⟩;exact he.mono o2.bS o2.next o2.sub (fun c hc=>by rw[gB.mc b2.hr c (o2.sub c hc),o2.mc hr c hc])
 |@JT B rd c e g i v v' bs r De hf _ ih=>
  cases r with
  |code x e2 g2=>
   intro hc hB s F h e' hr he;have o1:=Cs hr bs;have vL:ER s (ck bs g).next (fun b=>F b∨∃c,c∈bs∧g.get c≠none∧s c=b) h (Tr.set e i v') e':=by
    rw[dP];intro t u hu;rw[Tr.bP] at hu;split at hu
    ·rename_i ht;subst ht;cases hu
     exact sU hf hr (fun _ hb=>.inl hb) (fun b hb hn=>.inr ⟨b,hb,hn,rfl⟩) (he t v De)
    ·exact(he t u hu).mono (fun _ _=>rfl) (Nat.le_refl _) (fun _ hb=>.inl hb) (fun _ _=>rfl)
   obtain⟨s1,F1,h1,oY,a1,a2,a3⟩:=ih hc (by rw[dP];exact hB) s _ h e' o1.hr vL;exact⟨s1,F1,h1,oY,a1,(o1.weaken hB).trans hr a2,a3⟩
  |ops _ _ _=>exact ih.elim
  |val _ _=>exact ih.elim
  |kP _ _=>exact ih.elim
  |post _=>exact ih.elim
 |@drop B rd c e g e1 r hd _ ih=>
  cases r with
  |code x e2 g2=>
   intro hc hB s F h e' hr he;exact ih hc hB s F h e' hr (fun i v hv=>he i v (hd i v hv))
  |ops _ _ _=>exact ih.elim
  |val _ _=>exact ih.elim
  |kP _ _=>exact ih.elim
  |post _=>exact ih.elim
 |@gc B rd c e g p e1 g1 r VT _ ih=>
  cases r with
  |code x e2 g2=>
   intro hc hB s F h e' hr he;obtain⟨o1,vL⟩:=Sa hr he VT;obtain⟨s1,F1,h1,oY,a1,a2,a3⟩:=ih hc VT.next _ F h e' o1.hr vL;exact⟨s1,F1,h1,oY,a1,o1.trans hr a2,a3⟩
  |ops _ _ _=>exact ih.elim
  |val _ _=>exact ih.elim
  |kP _ _=>exact ih.elim
  |post _=>exact ih.elim
 |nil=>intro _ s F h e' hr he;exact⟨s,F,h,e',[],.nil,.refl hr (Nat.le_refl _),he,.nil hr⟩
 |@off B rd i l e g tr e1 g1 hw _ ih=>
  intro hc s F h e' hr he;simp only[lq,Bool.and_eq_true] at hc;obtain⟨s1,F1,h1,oY,mu,a1,a2,a3,a4⟩:=ih hc.2 s F h (e'.put i.dst .undef) hr (he.put i.dst .undef);exact⟨s1,F1,h1,oY,_,.off (nX he hw) a1,a2,a3,.cons hr he (.refl hr (Nat.le_refl _)) rfl rfl rfl rfl rfl (fun h=>by simp at h) (fun _=>⟨rfl,rfl⟩) a4⟩
 |@on B rd i l e g v g1 tr e1 g2 hw hj hop _ xw ihl=>
  intro hc s F h e' hr he;simp only[lq,Bool.and_eq_true] at hc;obtain⟨s1,F1,h1,v',a1,a2,a3⟩:=xw hc.1.1 s F h _ hr (he.FE hc.1.2 hj);have vL:ER s1 g1.next F1 h1 (e.put i.dst v) (e'.put i.dst v'):=(he.mono a2.bS a2.next a2.sub (a2.mc hr)).put i.dst a3;obtain⟨s2,F2,h2,Cp,mu,b1,b2,b3,b4⟩:=ihl hc.2 s1 F1 h1 _ a2.hr vL;refine⟨s2,F2,h2,Cp,_,.on (nX he hw) a1 b1,a2.trans hr (b2.weaken a2.next),b3,.cons hr he a2 rfl rfl rfl rfl rfl (fun _=>⟨hj,he.FE hc.1.2 hj,a3,fun o ho=>?_,fun o ho=>?_⟩) (fun h=>by simp at h) b4⟩
  rotate_left
  ·refine⟨?_,?_⟩
   ·rw[ho] at a1;cases a1 with
    |HI hp=>exact hp
   ·rw[ho] at hop;cases hop with
    |HI hp=>exact hp
  refine⟨?_,?_⟩
  ·rw[ho] at hop;cases hop with
   |Fg hp=>exact hp
  ·rw[ho] at a1;cases a1 with
   |Fg hp=>exact hp
 |Fg hp=>
  intro hc s F h vals' hr q;obtain⟨v',a1,a2⟩:=Mu q hc hp;exact⟨s,F,h,v',.Fg a1,.refl hr (Nat.le_refl _),a2⟩
 |@PU B rd o vals g x f hp=>
  intro hc s F h vals' hr q;obtain⟨x',a1,a2,a3⟩:=Rz hr q hc hp;have o1:=vq hr a2;have hs0:mz s g.next h.next g.next=h.next:=by unfold mz;rw[if_pos rfl]
  refine⟨_,F,_,_,.PU a1,o1,?_⟩;have:=a3 (s1:=mz s g.next h.next) (n1:=(g.new x).next) (F1:=F) (h1:=h.new x') (by simp);rw[hs0] at this;exact this
 |HI hp=>
  intro hc s F h vals' hr q;obtain⟨v',a1,a2⟩:=CQ hr q hc hp;exact⟨s,F,h,v',.HI a1,.refl hr (Nat.le_refl _),a2⟩
 |NB hp=>
  intro hc s F h vals' hr q;obtain⟨s1,v',h1,a1,a2,a3⟩:=RR hr q hc hp;exact⟨s1,F,h1,v',.NB a1,a2,a3⟩
 |UB hp=>
  intro hc s F h vals' hr q;obtain⟨s1,v',h1,a1,a2,a3⟩:=OM hr q hp;exact⟨s1,F,h1,v',.UB a1,a2,a3⟩
 |mF _ ih=>
  intro hc s F h vals' hr q;obtain⟨IS,args',rfl,q1,q2⟩:=q.cons_inv;obtain⟨s1,F1,h1,v',a1,a2,a3⟩:=ih s F h IS args' hr q1 q2;exact⟨s1,F1,h1,v',.mF a1,a2,a3⟩
 |me hm _ ih=>
  intro hc s F h vals' hr q;obtain⟨y,args',rfl,q1,q2⟩:=q.cons_inv;cases q1 with
  |iface q1=>
   obtain⟨s1,F1,h1,v',a1,a2,a3⟩:=ih s F h _ hr (.cons q1 q2);exact⟨s1,F1,h1,v',.me hm a1,a2,a3⟩
 |dw _ ih=>
  intro s F h IS args' hr q1 q2;cases q1 with
  |func f1 f2 f3 f4=>
   obtain⟨s1,F1,h1,v',a1,a2,a3⟩:=ih s F h _ hr (bu.append ⟨f1,f2⟩ (q2.append ⟨f3,f4⟩));exact⟨s1,F1,h1,v',.dw a1,a2,a3⟩
 |@yield B L args g cF e ps a b e2 g2 cU x e4 g4 MX rU hg hlen _ Az _ hx Us ux pS=>
  intro s F h IS args' hr q1 q2;cases q1 with
  |yield hL=>
   obtain⟨y,hy,Ax⟩:=hr.cj _ _ hg;obtain⟨e',rfl,he,c1,c2⟩:=pH Ax;obtain⟨s1,F1,h1,Cp,a1,a2,a3⟩:=ux c1 (Nat.le_refl _) s F h _ hr (he.gL (ps:=ps) q2);have Dg:s1 L=s L:=a2.bS L hL;obtain⟨y2,LJ,Sk⟩:=a2.hr.cj _ _ Az;obtain⟨e5,rfl,he5,_,_⟩:=pH Sk;obtain⟨st',p',hk⟩:=a2.loops _ _ _ _ _ _ _ hy;rw[Dg] at LJ;rw[hk] at LJ;cases LJ
   have gB:=qx (b:=L) (x:=.loop 1 cU e ps a b) (x':=.loop 1 cU e' ps a b) a2.hr (by rw[Az];simp) (.loop he5 c1 c2) (by
    intro st p e6 ps6 a6 c6 fh;rw[Dg,hk] at fh;cases fh
    exact⟨_,_,rfl⟩)
   rw[Dg] at gB;have ha3:ER s1 (g2.set L (.loop 1 cU e ps a b)).next F1 (h1.set (s L) (.loop 1 cU e' ps a b)) e2 Cp:=a3.mono (fun _ _=>rfl) (Nat.le_refl _) (fun _=>id) (gB.mc a2.hr)
   obtain⟨s2,F2,h2,e4',b1,b2,b3⟩:=pS c2 (Nat.le_trans a2.next (by simp)) s1 F1 _ Cp gB.hr ha3;have o3:=(a2.trans hr (gB.weaken a2.next)).trans hr b2;have Nx:s2 L=s L:=o3.bS L hL;obtain⟨y4,hy4,abe⟩:=b2.hr.cj _ _ Us;obtain⟨e7,rfl,he7,_,_⟩:=pH abe;obtain⟨ad0,p'',hk2⟩:=o3.loops _ _ _ _ _ _ _ hy;rw[Nx,hk2] at hy4;cases hy4
   have Eb:=qx (b:=L) (x:=.loop (bif x.bZ then 0 else 2) (eJ x) e ps a b) (x':=.loop (bif x.bZ then 0 else 2) (eJ x) e' ps a b) b2.hr (by rw[Us];simp) (.loop he7 c1 c2) (by
    intro st p e6 ps6 a6 c6 fh;rw[Nx,hk2] at fh;cases fh
    exact⟨_,_,rfl⟩)
   rw[Nx] at Eb;exact⟨s2,F2,_,_,.yield hy (by rw[←q2.1];exact hlen) a1 hk b1 hx hk2,o3.trans hr (Eb.weaken b2.next),.bool⟩
 |@call B f args g af x e1 g1 vs hf hlen _ hx hres ih=>
  intro s F h args' hr q;obtain⟨s1,F1,h1,oY,a1,a2,a3⟩:=ih (Q6 f af hf) (Nat.le_refl _) s F h _ hr (ER.start af.ntmps q);obtain⟨vs',b1,b2⟩:=uD a2.hr a3 hres;exact⟨s1,F1,h1,_,.call hf (by rw[←q.1];exact hlen) a1 hx b1,a2,zE b2⟩
 |@lz B gg ps a b e g f first aN v g2 hao De _ ih=>
  intro hc hB s F h e' hr he;simp only[gr,Bool.and_eq_true] at hc;have hg:=he.ev hc.1.1 hao;rw[De] at hg;generalize hg':e'.ev gg=fv at hg;cases hg with
  |@func _ _ first' _ q8 f1 f2 f3 f4=>
   have o1:=vq (x:=.loop 0 none e ps a b) (x':=.loop 0 none e' ps a b) hr (.loop he hc.1.2 hc.2);have hs0:mz s g.next h.next g.next=h.next:=by unfold mz;rw[if_pos rfl]
   have hm:∀{l l':List AV},bu s g.next F h l l'→bu (mz s g.next h.next) (g.new (.loop 0 none e ps a b)).next F (h.new (.loop 0 none e' ps a b)) l l':=
    fun q=>q.mono o1.bS o1.next (fun _=>id) (o1.mc hr)
   have hy:Rel (mz s g.next h.next) (g.new (.loop 0 none e ps a b)).next F (h.new (.loop 0 none e' ps a b)) (.yield g.next) (.yield h.next):=by
    have:=Rel.yield (s:=mz s g.next h.next) (n:=(g.new (.loop 0 none e ps a b)).next) (F:=F) (h:=h.new (.loop 0 none e' ps a b)) (b:=g.next) (by simp);rw[hs0] at this;exact this
   obtain⟨s2,F2,h2,b1,b2⟩:=ih _ F _ _ o1.hr ((hm ⟨f1,f2⟩).append (.cons hy (hm ⟨f3,f4⟩)));have o2:=o1.trans hr (b2.weaken (by simp));exact⟨s2,F2,h2,e',.lz hg' b1,o2.weaken hB,he.mono o2.bS o2.next o2.sub (o2.mc hr)⟩
 |@sD B L args g cF e ps a id A l1 i l2 e2 g2 cU e3 g3 tr e4 g4 v g5 hg hlen _ hna Az Hy _ _ hw hj _ ux LP ihl xw=>
  intro s F h IS args' hr q1 q2;cases q1 with
  |yield hL=>
   obtain⟨y,hy,Ax⟩:=hr.cj _ _ hg;obtain⟨e',rfl,he,c1,c2⟩:=pH Ax;have c2':=c2;simp only[gr,Bool.and_eq_true] at c2;have lf:lq (l1++i::l2)=true:=c2.2;rw[vg,Bool.and_eq_true] at lf;simp only[lq,Bool.and_eq_true] at lf;obtain⟨s1,F1,h1,Cp,a1,a2,a3⟩:=ux c1 (Nat.le_refl _) s F h _ hr (he.gL (ps:=ps) q2);have Dg:s1 L=s L:=a2.bS L hL;obtain⟨y2,LJ,Sk⟩:=a2.hr.cj _ _ Az;obtain⟨e5,rfl,he5,_,_⟩:=pH Sk;obtain⟨st',p',hk⟩:=a2.loops _ _ _ _ _ _ _ hy;rw[Dg] at LJ;rw[hk] at LJ;cases LJ
   have gB:=qx (b:=L) (x:=.loop 1 cU e ps a (.block id (.seq A (.ops (l1++i::l2))))) (x':=.loop 1 cU e' ps a (.block id (.seq A (.ops (l1++i::l2))))) a2.hr (by rw[Az];simp) (.loop he5 c1 c2') (by
    intro st p e6 ps6 a6 c6 fh;rw[Dg,hk] at fh;cases fh
    exact⟨_,_,rfl⟩)
   rw[Dg] at gB;have ha3:ER s1 (g2.set L (.loop 1 cU e ps a (.block id (.seq A (.ops (l1++i::l2)))))).next F1 (h1.set (s L) (.loop 1 cU e' ps a (.block id (.seq A (.ops (l1++i::l2)))))) e2 Cp:=a3.mono (fun _ _=>rfl) (Nat.le_refl _) (fun _ hb=>hb) (gB.mc a2.hr)
   obtain⟨s2,F2,h2,IK,b1,b2,b3⟩:=LP c2.1 (Nat.le_trans a2.next (by simp)) s1 F1 _ Cp gB.hr ha3;have o3:=(a2.trans hr (gB.weaken a2.next)).trans hr b2;obtain⟨s3,F3,h3,e4',mu,d1,d2,d3,_⟩:=ihl lf.1 s2 F2 h2 IK b2.hr b3;have o4:=o3.trans hr (d2.weaken b2.next);obtain⟨s4,F4,h4,f1,f2⟩:=xw lf.2.1.1 s3 F3 h3 _ d2.hr (d3.FE lf.2.1.2 hj);exact⟨s4,F4,h4,.sD hy (by rw[←q2.1];exact hlen) a1 hna hk Hy b1 d1 (nX d3 hw) f1,o4.trans hr (f2.weaken o4.next)⟩
 |@Et B rd l1 i l2 e g tr e1 g1 v g2 _ hw hj _ ihl xw=>
  intro hc hB s F h e' hr he;have lf:lq (l1++i::l2)=true:=hc;rw[vg,Bool.and_eq_true] at lf;simp only[lq,Bool.and_eq_true] at lf;obtain⟨s1,F1,h1,oY,mu,a1,a2,a3,_⟩:=ihl lf.1 s F h e' hr he;obtain⟨s2,F2,h2,b1,b2⟩:=xw lf.2.1.1 s1 F1 h1 _ a2.hr (a3.FE lf.2.1.2 hj);exact⟨s2,F2,h2,oY,.Et a1 (nX a3 hw) b1,(a2.trans hr (b2.weaken a2.next)).weaken hB,a3.mono b2.bS b2.next b2.sub (b2.mc a2.hr)⟩
 |@xg B rd l1 i win e g tr e1 g1 v g2 _ wF tS Ay hw hj _ ihl xw=>
  intro hc hB s F h e' hr he;have lf:lq (l1++[i])=true:=hc;rw[vg,Bool.and_eq_true] at lf;simp only[lq,Bool.and_eq_true] at lf;obtain⟨s1,F1,h1,oY,mu,a1,a2,a3,a4⟩:=ihl lf.1 s F h e' hr he;obtain⟨s2,F2,h2,b1,b2⟩:=xw lf.2.1.1 s1 F1 h1 _ a2.hr (a3.FE lf.2.1.2 hj);have Ea:nR l1 (win.take l1.length) mu h1:=by
   rcases wF with wF|wF
   ·refine oP ?_;rw[List.all_eq_true] at wF⊢;exact fun x hx=>wF x (List.mem_of_mem_take hx)
   ·exact B8 lf.1 a4 wF
  exact⟨s2,F2,h2,oY,.xg a1 Ea tS Ay (nX a3 hw) b1,(a2.trans hr (b2.weaken a2.next)).weaken hB,a3.mono b2.bS b2.next b2.sub (b2.mc a2.hr)⟩
 |@qm B rd t x g hp=>
  intro hc s F h vals' hr q;have:=q.jO (l:=[.iface t x]) (by simp[nk,AV.pl,hp]);subst this;exact⟨s,F,h,.qm,.refl hr (Nat.le_refl _)⟩
 |oD _ ih=>
  intro hc s F h vals' hr q;obtain⟨IS,args',rfl,q1,q2⟩:=q.cons_inv;obtain⟨s1,F1,h1,a1,a2⟩:=ih s F h IS args' hr q1 q2;exact⟨s1,F1,h1,.oD a1,a2⟩
 |ni hm _ ih=>
  intro hc s F h vals' hr q;obtain⟨y,args',rfl,q1,q2⟩:=q.cons_inv;cases q1 with
  |iface q1=>
   obtain⟨s1,F1,h1,a1,a2⟩:=ih s F h _ hr (.cons q1 q2);exact⟨s1,F1,h1,.ni hm a1,a2⟩
 |pY _ ih=>
  intro s F h IS args' hr q1 q2;cases q1 with
  |func f1 f2 f3 f4=>
   obtain⟨s1,F1,h1,a1,a2⟩:=ih s F h _ hr (bu.append ⟨f1,f2⟩ (q2.append ⟨f3,f4⟩));exact⟨s1,F1,h1,.pY a1,a2⟩
 |@w6 B f args g af v e1 g1 hf hlen _ ih=>
  intro s F h args' hr q;obtain⟨s1,F1,h1,oY,a1,a2,a3⟩:=ih (Q6 f af hf) (Nat.le_refl _) s F h _ hr (ER.start af.ntmps q);exact⟨s1,F1,h1,.w6 hf (by rw[←q.1];exact hlen) a1,a2⟩
 |@uQ B f args g af A l1 dst r rest e1 g1 tr e2 g2 gf first aN x e3 g3 ag t l2 eE AP e4 y e5 g5 vs hf hlen wz _ Hy _ hj De _ hx oy hg D6 hbody D7 Hz _ m9 _ hy hres LP ihl ihr Zk od=>
  intro s F h args' hr q;have FT:=Q6 f af hf;rw[wz] at FT;simp only[gr,Bool.and_eq_true] at FT;obtain⟨hcA,hcD,hcR⟩:=FT;rw[vg,Bool.and_eq_true] at hcD;have VA:mI [r]=true:=by
   have:=hcD.2;simp only[lq,qJ,mI,Bool.and_eq_true] at this;simp only[mI,Bool.and_true];exact this.1.2.2.1
  have YW:=Q6 gf ag hg;rw[hbody] at YW;simp only[gr,lq,Bool.and_eq_true] at YW;obtain⟨s1,F1,h1,oY,a1,a2,a3⟩:=LP hcA (Nat.le_refl _) s F h _ hr (ER.start af.ntmps q);obtain⟨s2,F2,h2,Cp,mu,b1,b2,b3,_⟩:=ihl hcD.1 s1 F1 h1 oY a2.hr a3;have o12:=a2.trans hr (b2.weaken a2.next);have hfr:=(b3.FE VA hj).2 0 _ _ rfl rfl;rw[De] at hfr;obtain⟨s3,F3,h3,IK,c1,c2,c3⟩:=ihr hcR (Nat.le_refl _) s2 F2 h2 _ b2.hr (b3.put dst .undef);have o23:=o12.trans hr (c2.weaken o12.next);generalize hw:Cp.ev r=fw at hfr;cases hfr with
  |func f1 f2 f3 f4=>
   rename_i first' q8;have FP:bu s2 g2.next F2 h2 (first++aN) (first'++q8):=bu.append ⟨f1,f2⟩ ⟨f3,f4⟩;have hargs:bu s3 g3.next F3 h3 (first++aN) (first'++q8):=⟨FP.1,fun i x y hx hy=>(FP.2 i x y hx hy).mono c2.bS c2.next c2.sub (c2.mc b2.hr)⟩;have hstart:ER s3 g3.next F3 h3 ((Env.start ag.ntmps (first++aN)).put (some t) (oQ x)) ((Env.start ag.ntmps (first'++q8)).put (some t) (oQ x)):=(ER.start ag.ntmps hargs).put (some t) (.eR oy);obtain⟨s4,F4,h4,e4',ad1,d1,d2,d3,_⟩:=Zk YW.1.2 s3 F3 h3 _ c2.hr hstart;have hh:=qo m9 d1;subst hh;obtain⟨s5,F5,h5,YM,m1,m2,m3⟩:=od YW.2 (Nat.le_refl _) s4 F4 h4 e4' d2.hr d3;have WX:=d2.trans c2.hr (m2.weaken d2.next);have hall:=o23.trans hr (WX.weaken o23.next);have e35:ER s5 g5.next F5 h5 e3 IK:=c3.mono WX.bS WX.next WX.sub (WX.mc c2.hr);obtain⟨vs',p1,p2⟩:=uD m2.hr e35 hres;exact⟨s5,F5,h5,_,.uQ hf (by rw[←q.1];exact hlen) wz a1 Hy b1 hw c1 hx hg (by rw[←FP.1];exact D6) hbody D7 Hz d1 m9 m1 hy p1,hall,zE p2⟩
 |@pure B f args g v g1 v' _ jQ hfz hcl' ih=>
  intro s F h args' hr q;have q0:bu s 0 F h args args':=q.clean jQ;obtain⟨s1,F1,h1,w,a1,a2,a3⟩:=ih s F h args' (KQ hr) q0;have F6:Rel s1 g1.next (fun b=>F1 b∨∃c,g1.get c≠none∧s1 c=b) h1 v' w:=sU hfz a2.hr (fun _ hb=>.inl hb) (fun b _ hn=>.inr ⟨b,hn,rfl⟩) a3;have hnew:∀b,(F1 b∨∃c,g1.get c≠none∧s1 c=b)→b<h.next→F b:=by
   rintro b (hb|⟨c,hc,rfl⟩) hlt
   ·rcases a2.new b hb hlt with hf|⟨c,hc,_⟩
    ·exact hf
    ·exact absurd rfl hc
   ·rcases a2.fresh c (Nat.zero_le _) hc with h1|⟨c0,h1,_⟩
    ·omega
    ·exact absurd rfl h1
  have rH:∀b,b<h.next→h1.get b=h.get b:=fun b hb=>a2.AJ b hb (fun c hc=>absurd rfl hc);refine⟨s,fun b=>F b∨(h.next≤b∧(F1 b∨∃c,g1.get c≠none∧s1 c=b)),h1,w,a1,?_,?_⟩
  ·refine⟨⟨hr.top,a2.hr.tH,?_,?_,hr.inj,?_⟩,Nat.le_refl _,a2.hnext,fun _ _=>rfl,fun b hb=>.inl hb,?_,fun b hb _=>rH b hb,fun c hc hn=>.inr ⟨c,hn,rfl⟩,fun c _ hn=>hn,?_⟩
   ·rintro b (hb|⟨_,hb|⟨c,hc,rfl⟩⟩)
    ·exact Nat.lt_of_lt_of_le (hr.qc b hb) a2.hnext
    ·exact a2.hr.qc b hb
    ·exact a2.hr.slt hc
   ·intro b x hx;obtain⟨y,hy,Ax⟩:=hr.cj b x hx;have hlt:=hr.slt (b:=b) (by rw[hx];simp);exact⟨y,by rw[rH _ hlt];exact hy,Ax.mono (fun _ _=>rfl) (Nat.le_refl _) (fun _ hb=>.inl hb) (fun c hc=>rH c (hr.qc c hc))⟩
   ·rintro b hb (hf|⟨hle,_⟩)
    ·exact hr.own b hb hf
    ·have:=hr.slt hb;omega
   ·rintro b (hb|⟨hle,_⟩) hlt
    ·exact .inl hb
    ·omega
   ·intro b st p e ps a c hb;exact a2.loops b st p e ps a c hb
  ·refine(F6.clean (s':=s) (n':=g.next) hcl').mono (fun _ _=>rfl) (Nat.le_refl _) ?_ (fun _ _=>rfl);intro b hb;by_cases hlt:b<h.next
   ·exact .inl (hnew b hb hlt)
   ·exact .inr ⟨by omega,hb⟩
 |@Vf B f args args1 g bs v g1 hfz _ ih=>
  intro s F h args' hr q;have o1:=Cs hr bs;have q1:bu s (ck bs g).next (fun b=>F b∨∃c,c∈bs∧g.get c≠none∧s c=b) h args1 args':=by
   rw[dP];refine⟨by rw[←hfz.1];exact q.1,fun i x y hx hy=>?_⟩;have hl:=(List.getElem?_eq_some_iff.1 hx).1;have hz:=List.getElem?_eq_getElem (l:=args) (i:=i) (by rw[hfz.1];exact hl);exact sU (hfz.2 i _ x hz hx) hr (fun _ hb=>.inl hb) (fun b hb hn=>.inr ⟨b,hb,hn,rfl⟩) (q.2 i _ y hz hy)
  obtain⟨s1,F1,h1,w,a1,a2,a3⟩:=ih s _ h args' o1.hr q1;rw[dP] at a2;exact⟨s1,F1,h1,w,a1,o1.trans hr a2,a3⟩
 |@Vg B f args g bs v v' g1 _ hfz ih=>
  intro s F h args' hr q;obtain⟨s1,F1,h1,w,a1,a2,a3⟩:=ih s F h args' hr q;have o1:=Cs a2.hr bs;refine⟨s1,_,h1,w,a1,a2.trans hr (o1.weaken a2.next),?_⟩;rw[dP];exact sU hfz a2.hr (fun _ hb=>.inl hb) (fun b hb hn=>.inr ⟨b,hb,hn,rfl⟩) a3
 |@closed B f args g v h1 hb hpa hpv=>
  intro s F h args' hr q;have ha:=q.jO hpa;subst ha;exact⟨s,F,h,v,.fresh hb (Ez hpa) (Gs hpv),.refl hr (Nat.le_refl _),.eR hpv⟩
 |@view B f args args1 g v g1 hfz jQ _ m9 ih=>
  intro s F h args' hr q;have q1:bu s g.next (fun b=>b<h.next) h args1 args':=by
   refine⟨by rw[←hfz.1];exact q.1,fun i x y hx hy=>?_⟩;have hl:=(List.getElem?_eq_some_iff.1 hx).1;have hz:=List.getElem?_eq_getElem (l:=args) (i:=i) (by rw[hfz.1];exact hl);exact sU (hfz.2 i _ x hz hx) hr (fun b hb=>hr.qc b hb) (fun b _ hn=>hr.slt hn) (q.2 i _ y hz hy)
  have q0:=bu.clean (s':=s) (n':=0) q1 jQ;have Nw:HR s (fun b=>b<h.next) ⟨0,.nil⟩ h:=by
   refine⟨fun b _=>rfl,hr.tH,fun b hb=>hb,fun b x hx=>?_,fun b c hb=>absurd rfl hb,fun b hb=>absurd rfl hb⟩;have:(none:Option dm)=some x:=hx;simp at this
  obtain⟨s1,F1,h1,w,a1,a2,a3⟩:=ih s (fun b=>b<h.next) h args' Nw q0;have rH:∀b,b<h.next→h1.get b=h.get b:=fun b hb=>a2.AJ b hb (fun c hc=>absurd rfl hc);have hw:=a3.jO m9;subst hw;refine⟨s,F,h1,_,a1,?_,.eR m9⟩;refine⟨⟨hr.top,a2.hr.tH,fun b hb=>Nat.lt_of_lt_of_le (hr.qc b hb) a2.hnext,?_,hr.inj,hr.own⟩,Nat.le_refl _,a2.hnext,fun _ _=>rfl,fun b hb=>hb,fun b hb _=>.inl hb,fun b hb _=>rH b hb,fun c hc hn=>.inr ⟨c,hn,rfl⟩,fun c _ hn=>hn,?_⟩
  ·intro b x hx;obtain⟨y,hy,Ax⟩:=hr.cj b x hx;have hlt:=hr.slt (b:=b) (by rw[hx];simp);exact⟨y,by rw[rH _ hlt];exact hy,Ax.mono (fun _ _=>rfl) (Nat.le_refl _) (fun _ hb=>hb) (fun c hc=>rH c (hr.qc c hc))⟩
  ·intro b st p e ps a c hb;exact a2.loops b st p e ps a c hb
 |@Rv B f args args1 g g1 b0 o len cap op vs wr es hfz jQ _ Nu m9 ih=>
  intro s F h args' hr q;have q1:bu s g.next (fun b=>b<h.next) h args1 args':=by
   refine⟨by rw[←hfz.1];exact q.1,fun i x y hx hy=>?_⟩;have hl:=(List.getElem?_eq_some_iff.1 hx).1;have hz:=List.getElem?_eq_getElem (l:=args) (i:=i) (by rw[hfz.1];exact hl);exact sU (hfz.2 i _ x hz hx) hr (fun b hb=>hr.qc b hb) (fun b _ hn=>hr.slt hn) (q.2 i _ y hz hy)
  have q0:=bu.clean (s':=s) (n':=0) q1 jQ;have Nw:HR s (fun b=>b<h.next) ⟨0,.nil⟩ h:=by
   refine⟨fun b _=>rfl,hr.tH,fun b hb=>hb,fun b x hx=>?_,fun b c hb=>absurd rfl hb,fun b hb=>absurd rfl hb⟩;have:(none:Option dm)=some x:=hx;simp at this
  obtain⟨s1,F1,h1,w,a1,a2,a3⟩:=ih s (fun b=>b<h.next) h args' Nw q0;have rH:∀b,b<h.next→h1.get b=h.get b:=fun b hb=>a2.AJ b hb (fun c hc=>absurd rfl hc);have hfr:h.next≤s1 b0:=by
   rcases a2.fresh b0 (Nat.zero_le _) (by rw[Nu];simp) with h2|⟨c0,h2,_⟩
   ·exact h2
   ·exact absurd rfl h2
  obtain⟨y0,hy0,abd⟩:=a2.hr.cj b0 _ Nu;have hs:∀b,b<g.next→(if b=g.next then s1 b0 else s b)=s b:=fun b hb=>if_neg (by omega);refine⟨fun b=>if b=g.next then s1 b0 else s b,F,h1,_,a1,?_,?_⟩
  ·refine⟨⟨?_,a2.hr.tH,fun b hb=>Nat.lt_of_lt_of_le (hr.qc b hb) a2.hnext,?_,?_,?_⟩,by simp,a2.hnext,hs,fun b hb=>hb,fun b hb _=>.inl hb,fun b hb _=>rH b hb,?_,?_,?_⟩
   ·intro b hb;simp only[Heap.Ml] at hb;rw[Heap.cB,if_neg (by omega)];exact hr.top b (by omega)
   ·intro b x hx;rw[Heap.cB] at hx;by_cases xW:b=g.next
    ·rw[if_pos xW] at hx;cases hx
     simp only[if_pos xW];refine⟨y0,hy0,?_⟩;cases abd with
     |cells r hw=>
      refine .cells ⟨r.1,fun i x y hx hy=>?_⟩ hw;have oy:=jS m9 hx;have:=(r.2 i x y hx hy).jO oy;subst this;exact .eR oy
    ·rw[if_neg xW] at hx;simp only[if_neg xW];obtain⟨y,hy,Ax⟩:=hr.cj b x hx;have hlt:=hr.slt (b:=b) (by rw[hx];simp);exact⟨y,by rw[rH _ hlt];exact hy,Ax.mono hs (by simp) (fun _ hb=>hb) (fun c hc=>rH c (hr.qc c hc))⟩
   ·intro b c hb hc he;rw[Heap.cB] at hb hc;by_cases h2:b=g.next<;>by_cases h3:c=g.next
    ·rw[h2,h3]
    ·rw[if_neg h3] at hc;simp only[if_pos h2,if_neg h3] at he;have:=hr.slt hc;omega
    ·rw[if_neg h2] at hb;simp only[if_pos h3,if_neg h2] at he;have:=hr.slt hb;omega
    ·rw[if_neg h2] at hb;rw[if_neg h3] at hc;simp only[if_neg h2,if_neg h3] at he;exact hr.inj b c hb hc he
   ·intro b hb hF;rw[Heap.cB] at hb;by_cases h2:b=g.next
    ·simp only[if_pos h2] at hF;have:=hr.qc _ hF;omega
    ·rw[if_neg h2] at hb;simp only[if_neg h2] at hF;exact hr.own b hb hF
   ·intro c hc hn;rw[Heap.cB] at hn;by_cases h2:c=g.next
    ·simp only[if_pos h2];exact .inl hfr
    ·rw[if_neg h2] at hn;exact absurd (hr.top c hc) hn
   ·intro c hc hn;rw[Heap.cB,if_neg (by omega)] at hn;exact hn
   ·intro b st p e ps a c hb;exact a2.loops b st p e ps a c hb
  ·cases a3 with
   |sl hlt=>
    have:=Rel.sl (s:=fun b=>if b=g.next then s1 b0 else s b) (n:=(g.new (.cells vs wr es)).next) (F:=F) (h:=h1) (b:=g.next) (o:=o) (len:=len) (cap:=cap) (op:=op) (by simp);simpa using this
end
end Ads
end Go.Proofs.Ytepdklcpagielaa
