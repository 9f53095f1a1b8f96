/-
  What Vs does is done in Ads.
-/
import Derived.Test.YtmnolnoeibhjgaaGreatVsEff
set_option linter.unusedVariables false
set_option linter.unusedSimpArgs false
namespace Go.Proofs.YtmnolnoeibhjgaaGreat
namespace Ads
section
variable {s:Nat→Nat} {n:Nat} {F:Nat→Prop} {g h:Heap}
theorem dm{bs:List Nat}:∀{g:Heap} (b:Nat),(cg bs g).get b=if b∈bs then none else g.get b:=by
 induction bs with
 |nil=>intro g b;simp[cg]
 |cons a bs ih=>
  intro g b;simp only[cg,ih,Heap.cJ,List.mem_cons];by_cases h1:b∈bs<;>by_cases h2:b=a<;>simp[h1,h2]
theorem bF{bs:List Nat}:∀{g:Heap},(cg bs g).next=g.next:=by
 induction bs with
 |nil=>intro g;rfl
 |cons a bs ih=>intro g;simp only[cg,ih];rfl
theorem p4{B:Nat→Prop}{F':Nat→Prop}{v v':AV}(f:jr B g v v')(r:HR s F g h)(hF:∀b,F b→F' b)(hB:∀b,B b→g.get b≠none→F' (s b)):
  ∀{w:AV},Rel s g.next F h v w→Rel s g.next F' h v' w:=by
 induction f with
 |clean _=>intro w q;exact q.mono (fun _ _=>rfl) (Nat.le_refl _) hF (fun _ _=>rfl)
 |agg h1 _ ih=>
  intro w q;cases q with
  |agg g1 g2=>
   refine .agg (h1▸g1) fun i x y hx hy=>?_;rename_i cs cs' ws _;have hl:=(List.getElem?_eq_some_iff.1 hx).1;have hz:=List.getElem?_eq_getElem (l:=cs) (i:=i) (by rw[h1];exact hl);exact ih i _ x hz hx (g2 i _ y hz hy)
 |dO h1 _ ih=>
  intro w q;cases q with
  |dO g1 g2=>
   refine .dO (h1▸g1) fun i x y hx hy=>?_;rename_i cs cs' ws _;have hl:=(List.getElem?_eq_some_iff.1 hx).1;have hz:=List.getElem?_eq_getElem (l:=cs) (i:=i) (by rw[h1];exact hl);exact ih i _ x hz hx (g2 i _ y hz hy)
 |iface _ ih=>
  intro w q;cases q with
  |iface g1=>exact .iface (ih g1)
 |az=>intro w q;cases q;exact .iJ
 |func h1 _ h2 _ ih1 ih2=>
  intro w q;cases q with
  |func g1 g2 g3 g4=>
   rename_i fn a a' c c' _ _ wa wc;refine .func (h1▸g1) (fun i x y hx hy=>?_) (h2▸g3) fun i x y hx hy=>?_
   ·have hl:=(List.getElem?_eq_some_iff.1 hx).1;have hz:=List.getElem?_eq_getElem (l:=a) (i:=i) (by rw[h1];exact hl);exact ih1 i _ x hz hx (g2 i _ y hz hy)
   ·have hl:=(List.getElem?_eq_some_iff.1 hx).1;have hz:=List.getElem?_eq_getElem (l:=c) (i:=i) (by rw[h2];exact hl);exact ih2 i _ x hz hx (g4 i _ y hz hy)
 |ptr hb hg h1 h2 _ ih=>
  intro w q;cases q with
  |ptr hlt=>
   rename_i b o base o' cs vs wr es _;obtain⟨vs',wr',hy,hr,_⟩:=r.cells hg;refine .fp (hB _ hb (by rw[hg];simp)) hy h1 (by rw[←hr.1];exact h2) fun j c y hc hy'=>?_;have hl:=(List.getElem?_eq_some_iff.1 hy').1;have hz:=List.getElem?_eq_getElem (l:=vs) (i:=base+j) (by rw[hr.1];exact hl);exact ih j c _ hc hz (hr.2 _ _ y hz hy')
 |sl hb hg h1 h2 h3 h4 lS h5 h6 _ ih=>
  intro w q;cases q with
  |sl hlt=>
   obtain⟨vs',wr',hy,hr,_⟩:=r.cells hg;refine .fz (hB _ hb (by rw[hg];simp)) hy h1 h2 (by rw[←hr.1];exact h3) h4 lS h5 h6 fun i x j c y hx hc hy'=>?_;rename_i vs _ _ _ _;have hl:=(List.getElem?_eq_some_iff.1 hy').1;have hz:=List.getElem?_eq_getElem (by rw[hr.1];exact hl);exact ih i x j c _ hx hc hz (hr.2 _ _ y hz hy')
theorem zb(r:HR s F g h)(bs:List Nat):Out g.next s F g h s (fun b=>F b∨∃c,c∈bs∧g.get c≠none∧s c=b) (cg bs g) h:=by
 have Ad:∀c,(cg bs g).get c≠none→g.get c≠none∧c∉bs:=by
  intro c hc;rw[dm] at hc;split at hc
  ·exact absurd rfl hc
  ·exact⟨hc,by assumption⟩
 refine⟨⟨?_,r.qz,?_,?_,?_,?_⟩,by rw[bF];exact Nat.le_refl _,Nat.le_refl _,fun _ _=>rfl,fun b hb=>.inl hb,?_,fun _ _ _=>rfl,?_,?_,?_⟩
 ·intro b hb;rw[bF] at hb;rw[dm,r.top b hb];simp
 ·rintro b (hb|⟨c,_,hc,rfl⟩)
  ·exact r.nG b hb
  ·exact r.slt hc
 ·intro b x hx;have:=Ad b (by rw[hx];simp);rw[dm,if_neg this.2] at hx;obtain⟨y,hy,hr⟩:=r.bH b x hx;refine⟨y,hy,?_⟩;rw[bF];exact hr.mono (fun _ _=>rfl) (Nat.le_refl _) (fun _ hb=>.inl hb) (fun _ _=>rfl)
 ·intro b c hb hc he;exact r.inj b c (Ad b hb).1 (Ad c hc).1 he
 ·intro b hb hf;obtain⟨h1,h2⟩:=Ad b hb;rcases hf with hf|⟨c,hc,Ru,he⟩
  ·exact r.own b h1 hf
  ·exact h2 (r.inj b c h1 Ru he.symm▸hc)
 ·rintro b (hb|⟨c,hc,Ru,rfl⟩) _
  ·exact .inl hb
  ·exact .inr ⟨c,Ru,rfl⟩
 ·intro c hc hn;exact absurd (r.top c hc) (Ad c hn).1
 ·intro c hc hn;exact(Ad c hn).1
 ·intro b st p e ps a c hb;exact⟨st,p,hb⟩
theorem Fh{e e':Env}(r:HR s F g h)(he:ER s g.next F h e e'){rv:qv}{v:AV}(hv:tJ e g rv=some v):∃v',wq e' h rv=some v'∧Rel s g.next F h v v':=by
 cases rv with
 |tmp t=>exact⟨_,rfl,he t v hv⟩
 |cell a k agg=>
  simp only[wq,tJ] at hv⊢;split at hv
  ·rename_i b o hb;have h1:=he a _ hb;generalize e'.get a=w at h1;cases h1 with
   |ptr hlt=>
    cases agg with
    |true=>
     simp only[cond_true,Option.map_eq_some_iff] at hv⊢;obtain⟨cs,hcs,rfl⟩:=hv;obtain⟨cs',h2,h3⟩:=kO r hcs;exact⟨.agg cs',⟨cs',h2,rfl⟩,.agg h3.1 h3.2⟩
    |false=>
     simp only[cond_false] at hv⊢;exact yg r hv
  ·simp at hv
theorem rC{e e':Env}(r:HR s F g h)(he:ER s g.next F h e e'):∀{rs:List qv} {vs:List AV},er e g rs=some vs→∃vs',eA e' h rs=some vs'∧aX s g.next F h vs vs'
 |[],vs,hv=>by simp only[er,Option.some.injEq] at hv;subst hv;exact⟨[],rfl,.nil⟩
 |rv::rs,vs,hv=>by
  simp only[er] at hv;split at hv
  ·rename_i v ws h1 h2;cases hv
   obtain⟨v',a1,a2⟩:=Fh r he h1;obtain⟨ws',b1,b2⟩:=rC r he h2;simp only[eA,a1,b1];exact⟨_,rfl,.cons a2 b2⟩
  ·simp at hv
theorem wz{vs vs':List AV}(q:aX s n F h vs vs'):Rel s n F h (cB vs) (cB vs'):=by
 rcases vs with _|⟨v,_|⟨u,vs⟩⟩
 ·rw[q.l8];exact .undef
 ·obtain⟨y,rfl,hy⟩:=q.one;exact hy
 ·obtain⟨v',l,rfl,h1,h2⟩:=q.cons_inv;obtain⟨u',l',rfl,h3,h4⟩:=h2.cons_inv;have:=h1|>fun h1=>aX.cons h1 (aX.cons h3 h4)
  exact .dO this.1 this.2
theorem lM{e e':Env}(he:ER s n F h e e'){i:bp}{b:Bool}(hw:cV i e=some b):bO i e'=b:=by
 unfold cV at hw;unfold bO;split at hw
 ·rename_i hg;rw[hg];simpa using hw
 ·rename_i d want hg;rw[hg];show(match e'.get d with|.bool b=>b==want|_=>false)=b;have:=he d;generalize Tr.get e d=x at this hw;generalize e'.get d=y at this;cases x with
  |none=>simp at hw
  |some x=>
   have:=this x rfl;cases this<;>first|(simp only[Option.some.injEq] at hw;exact hw)|(simp at hw)
end
section
variable (fs:Nat→Option aj) (ms:Nat→String→Option Nat)
inductive TR:(Nat→Nat)→(Nat→Prop)→Heap→Heap→List bp→Env→Env→List aK→List aK→(Nat→Nat)→(Nat→Prop)→Heap→Heap→Prop
 |nil {s F g h e e'}:HR s F g h→TR s F g h [] e e' [] [] s F g h
 |cons {s F g h s1 F1 g1 h1 s2 F2 g2 h2 e e'} {i:bp} {l:List bp} {m m':aK} {tr jZ}:HR s F g h→ER s g.next F h e e'→Out g.next s F g h s1 F1 g1 h1→m.h=g→m'.h=h→m'.on=m.on→
   m.vals=i.args.map e.ev→m'.vals=i.args.map e'.ev→
   (m.on=true→dj e i.args=true∧aX s g.next F h m.vals m'.vals∧Rel s1 g1.next F1 h1 m.v m'.v∧(∀o,i.op=.p o→pV o m.vals=some m.v∧pI o m'.vals=some m'.v)∧∀o,i.op=.r o→rI o m'.vals h=some m'.v∧rV o m.vals g=some m.v)→
   (m.on=false→m.v=.undef∧m'.v=.undef)→
   TR s1 F1 g1 h1 l (e.put i.dst m.v) (e'.put i.dst m'.v) tr jZ s2 F2 g2 h2→TR s F g h (i::l) e e' (m::tr) (m'::jZ) s2 F2 g2 h2
def Sim(B:Nat):Task→iF→Prop
 |.code rd c e g,.code x e1 g1=>eS c=true→B≤g.next→∀s F h e',HR s F g h→ER s g.next F h e e'→∃s1 F1 h1 mN,BS fs ms (.code rd c e' h) (.code x mN h1)∧Out B s F g h s1 F1 g1 h1∧ER s1 g1.next F1 h1 e1 mN
 |.ops rd l e g,.ops tr e1 g1=>jF l=true→∀s F h e',HR s F g h→ER s g.next F h e e'→∃s1 F1 h1 mN jZ,BS fs ms (.ops rd l e' h) (.ops jZ mN h1)∧Out g.next s F g h s1 F1 g1 h1∧ER s1 g1.next F1 h1 e1 mN∧TR s F g h l e e' tr jZ s1 F1 g1 h1
 |.op rd o vals g,.val v g1=>CR o=true→∀s F h vals',HR s F g h→aX s g.next F h vals vals'→∃s1 F1 h1 v',BS fs ms (.op rd o vals' h) (.val v' h1)∧Out g.next s F g h s1 F1 g1 h1∧Rel s1 g1.next F1 h1 v v'
 |.cK fv args g,.val v g1=>∀s F h EP args',HR s F g h→Rel s g.next F h fv EP→aX s g.next F h args args'→∃s1 F1 h1 v',BS fs ms (.cK EP args' h) (.val v' h1)∧Out g.next s F g h s1 F1 g1 h1∧Rel s1 g1.next F1 h1 v v'
 |.call f args g,.val v g1=>∀s F h args',HR s F g h→aX s g.next F h args args'→∃s1 F1 h1 v',BS fs ms (.call f args' h) (.val v' h1)∧Out g.next s F g h s1 F1 g1 h1∧Rel s1 g1.next F1 h1 v v'
 |.op rd o vals g,.jh v g1=>CR o=true→∀s F h vals',HR s F g h→aX s g.next F h vals vals'→∃s1 F1 h1,BS fs ms (.op rd o vals' h) (.jh v h1)∧Out g.next s F g h s1 F1 g1 h1
 |.cK fv args g,.jh v g1=>∀s F h EP args',HR s F g h→Rel s g.next F h fv EP→aX s g.next F h args args'→∃s1 F1 h1,BS fs ms (.cK EP args' h) (.jh v h1)∧Out g.next s F g h s1 F1 g1 h1
 |.call f args g,.jh v g1=>∀s F h args',HR s F g h→aX s g.next F h args args'→∃s1 F1 h1,BS fs ms (.call f args' h) (.jh v h1)∧Out g.next s F g h s1 F1 g1 h1
 |_,_=>False
end
section
variable {fs:Nat→Option aj} {ms:Nat→String→Option Nat} {s:Nat→Nat} {F:Nat→Prop} {g h:Heap}
theorem sM{p:Nat→Nat}{n n':Nat}{v v':AV}(f:qQ p n' v v'):∀{w:AV},Rel s n F h v' w→Rel (fun b=>s (p b)) n' F h v w:=by
 induction f with
 |cl hc=>intro w q;exact q.clean hc
 |ptr hb=>intro w q;cases q;exact .ptr (s:=fun b=>s (p b)) hb
 |sl hb=>intro w q;cases q;exact .sl (s:=fun b=>s (p b)) hb
 |map hb=>intro w q;cases q;exact .map (s:=fun b=>s (p b)) hb
 |yield hb=>intro w q;cases q;exact .yield (s:=fun b=>s (p b)) hb
 |iface _ ih=>intro w q;cases q with|iface q=>exact .iface (ih q)
 |agg h1 _ ih=>
  intro w q;cases q with
  |agg g1 g2=>
   rename_i cs cs' _ ws;refine .agg (h1.trans g1) fun i x y hx hy=>?_;have hl:=(List.getElem?_eq_some_iff.1 hx).1;have hz:=List.getElem?_eq_getElem (l:=cs') (i:=i) (by rw[←h1];exact hl);exact ih i x _ hx hz (g2 i _ y hz hy)
 |dO h1 _ ih=>
  intro w q;cases q with
  |dO g1 g2=>
   rename_i cs cs' _ ws;refine .dO (h1.trans g1) fun i x y hx hy=>?_;have hl:=(List.getElem?_eq_some_iff.1 hx).1;have hz:=List.getElem?_eq_getElem (l:=cs') (i:=i) (by rw[←h1];exact hl);exact ih i x _ hx hz (g2 i _ y hz hy)
 |func h1 _ h2 _ ih1 ih2=>
  intro w q;cases q with
  |func g1 g2 g3 g4=>
   rename_i fn a a' c c' _ _ wa wc;refine .func (h1.trans g1) (fun i x y hx hy=>?_) (h2.trans g3) fun i x y hx hy=>?_
   ·have hl:=(List.getElem?_eq_some_iff.1 hx).1;have hz:=List.getElem?_eq_getElem (l:=a') (i:=i) (by rw[←h1];exact hl);exact ih1 i x _ hx hz (g2 i _ y hz hy)
   ·have hl:=(List.getElem?_eq_some_iff.1 hx).1;have hz:=List.getElem?_eq_getElem (l:=c') (i:=i) (by rw[←h2];exact hl);exact ih2 i x _ hx hz (g4 i _ y hz hy)
theorem Ig{p:Nat→Nat}{n n':Nat}{x y z:bP}(f:j7 p n' x y)(q:BR s n F h y z):BR (fun b=>s (p b)) n' F h x z:=by
 cases f with
 |cells h1 h2=>
  rename_i vs vs' wr es;cases q with
  |cells r hw=>
   refine .cells ⟨h1.trans r.1,fun i a b ha hb=>?_⟩ hw;have hl:=(List.getElem?_eq_some_iff.1 ha).1;have hz:=List.getElem?_eq_getElem (l:=vs') (i:=i) (by rw[←h1];exact hl);exact sM (h2 i a _ ha hz) (r.2 i _ b hz hb)
 |map h1 h2=>
  rename_i l l' _ _;cases q with
  |map r=>
   refine .map ⟨h1.trans r.1,fun i a b ha hb=>?_⟩;have hl:=(List.getElem?_eq_some_iff.1 ha).1;have hz:=List.getElem?_eq_getElem (l:=l') (i:=i) (by rw[←h1];exact hl);exact⟨sM (h2 i a _ ha hz).1 (r.2 i _ b hz hb).1,sM (h2 i a _ ha hz).2 (r.2 i _ b hz hb).2⟩
 |loop h1=>
  cases q with
  |loop r c1 c2=>
   refine .loop (fun i v hv=>?_) c1 c2;obtain⟨u,hu,hr⟩:=h1 i v hv;exact sM hr (r i u hu)
theorem NZ{B:Nat}{p:Nat→Nat}{e1 e:Env}{g1:Heap}{e':Env}(r:HR s F g1 h)(he:ER s g1.next F h e1 e')(c:GC B p e1 g1 e g):
  Out B s F g1 h (fun b=>s (p b)) F g h∧ER (fun b=>s (p b)) g.next F h e e':=by
 have hne:∀b,g.get b≠none→g1.get (p b)≠none:=by
  intro b hb;cases hx:g.get b with
  |none=>exact absurd hx hb
  |some x=>
   obtain⟨_,y,hy,_⟩:=c.NA b x hx;rw[hy];simp
 refine⟨⟨⟨?_,r.qz,r.nG,?_,?_,?_⟩,c.next,Nat.le_refl _,fun b hb=>by simp only[c.fix b hb],fun _=>id,fun b hb _=>.inl hb,fun _ _ _=>rfl,?_,?_,fun b st p e ps a c hb=>⟨st,p,hb⟩⟩,?_⟩
 ·intro b hb;cases hx:g.get b with
  |none=>rfl
  |some x=>have:=(c.NA b x hx).1;omega
 ·intro b x hx;obtain⟨_,y,hy,hb⟩:=c.NA b x hx;obtain⟨z,hz,hr⟩:=r.bH _ y hy;exact⟨z,hz,Ig hb hr⟩
 ·intro b d hb hd heq;exact c.inj b d hb hd (r.inj _ _ (hne b hb) (hne d hd) heq)
 ·intro b hb;exact r.own _ (hne b hb)
 ·intro d hd hn;exact .inr ⟨p d,hne d hn,rfl⟩
 ·intro d hd hn;have:=hne d hn;rw[c.fix d hd] at this;exact this
 ·intro i v hv;obtain⟨u,hu,hr⟩:=c.slots i v hv;exact sM hr (he i u hu)
theorem mB{u:Nat→Heap}:∀{l:List bp} {win:List (List Nat)} {tr:List aK},win.all (·.isEmpty)=true→cz u l win tr
 |[],_,_,_=>by simp[cz]
 |_::_,[],_,_=>by simp[cz]
 |_::_,_::_,[],_=>by simp[cz]
 |x::l,cs::win,m::tr,h=>by
  simp only[List.all_cons,Bool.and_eq_true] at h;simp only[cz];refine⟨?_,mB h.2⟩;split
  ·intro _ c hc;rw[List.isEmpty_iff.1 h.1] at hc;simp at hc
  ·trivial
theorem mV{n:Nat}{st:Nat}{cw:Option AX}{e:Env}{ps:List Nat}{a b:AC}{y:bP}(r:BR s n F h (.loop st cw e ps a b) y):
  ∃e',y=.loop st cw e' ps a b∧ER s n F h e e'∧eS a=true∧eS b=true:=by
 cases r with
 |loop h1 h2 h3=>exact⟨_,rfl,h1,h2,h3⟩
theorem Gm(r:HR s F g h):HR s F ⟨0,.nil⟩ h:=by
 refine⟨fun b _=>rfl,r.qz,r.nG,fun b x hx=>?_,fun b c hb=>absurd rfl hb,fun b hb=>absurd rfl hb⟩;have:(none:Option bP)=some x:=hx;simp at this
theorem CX{D:Dom}:∀{v:AV},v.pl=true→v.aW D:=by
 intro v;refine AV.rec (motive_1:=fun v=>v.pl=true→v.aW D) (motive_2:=fun l=>kS l=true→bl D l) ?_ ?_ ?_ ?_ ?_ ?_ ?_ ?_ ?_ ?_ ?_ ?_ ?_ ?_ ?_ ?_ ?_ ?_ ?_ ?_ ?_ ?_ v
 case refine_11=>
  intro fn first aO ih1 ih2 hp
  simp only[AV.pl,Bool.and_eq_true] at hp;simp only[AV.aW];refine⟨?_,ih1 hp.1.1,ih2 hp.1.2⟩;intro l e;subst e;simp at hp
 case refine_14=>intro t v ih hp;simp only[AV.aW];exact ih (by simpa[AV.pl] using hp)
 case refine_16=>intro cs ih hp;simp only[AV.aW];exact ih (by simpa[AV.pl] using hp)
 case refine_17=>intro cs ih hp;simp only[AV.aW];exact ih (by simpa[AV.pl] using hp)
 case refine_20=>intro b o k hp;simp[AV.pl] at hp
 case refine_21=>intro _;trivial
 case refine_22=>intro x l ih1 ih2 hp;simp only[kS,Bool.and_eq_true] at hp;exact⟨ih1 hp.1,ih2 hp.2⟩
 all_goals (intros;simp_all[AV.pl,AV.aW])
theorem Bq{D:Dom}:∀{l:List AV},kS l=true→bl D l
 |[],_=>trivial
 |x::l,hp=>by simp only[kS,Bool.and_eq_true] at hp;exact⟨CX hp.1,Bq hp.2⟩
section
variable {s s1:Nat→Nat} {F F1:Nat→Prop} {g h g1 h1:Heap} {s0:Nat→Nat} {F0:Nat→Prop} {g0 h0:Heap} {n0:Nat}
def U7(P:Nat→Bool)(s:Nat→Nat)(n:Nat)(F:Nat→Prop)(h:Heap)(e e':Env):Prop:=∀i v,P i=true→Tr.get e i=some v→Rel s n F h v (e'.get i)
theorem U7.Co{P:Nat→Bool}{e e':Env}(r:U7 P s0 n0 F0 h0 e e'):∀{l:List bx},lq P l=true→kf l=true→dj e l=true→aX s0 n0 F0 h0 (l.map e.ev) (l.map e'.ev)
 |[],_,_,_=>.nil
 |.c v::l,hg,hc,hj=>by
  simp only[kf,Bool.and_eq_true] at hc;exact .cons (.dU hc.1) (r.Co hg hc.2 hj)
 |.t i::l,hg,hc,hj=>by
  simp only[kf,Bool.and_eq_true] at hc;simp only[dj,Bool.and_eq_true] at hj;simp only[lq,Bool.and_eq_true] at hg;obtain⟨v,hv⟩:=Option.isSome_iff_exists.1 hj.1;have:=r i v hg.1 hv;rw[←Cv hv] at this;exact .cons this (r.Co hg.2 hc.2 hj.2)
theorem H7{o:BU}{vals:List AV}{g:Heap}{v:AV}(h:rV o vals g=some v):o≠.entry:=by rintro rfl;simp[rV] at h
theorem CZ{o:BU}{b k:Nat}{h h':Heap}{v:AV}(hne:o≠.entry)(hg:h'.get b=h.get b)(hv:rI o [.ptr b k] h=some v):rI o [.ptr b k] h'=some v:=by
 cases o with
 |cP=>simp only[rI] at hv⊢;unfold Heap.cP Heap.row at hv⊢;rw[hg];exact hv
 |bt n=>simp only[rI] at hv⊢;unfold Heap.bt Heap.row at hv⊢;rw[hg];exact hv
 |entry=>exact absurd rfl hne
 |_=>simp[rI] at hv
theorem JX{l:List AV}(h:OY l=true):∃cs o,l=[.fp cs o]:=by
 unfold OY at h;split at h
 ·exact⟨_,_,rfl⟩
 ·simp at h
theorem SG{o:BU}{cs:List AV}{k:Nat}{h:Heap}{v:AV}(hv:rV o [.fp cs k] h=some v)(h':Heap):rV o [.fp cs k] h'=some v:=by
 cases o with
 |cP=>exact hv
 |bt n=>exact hv
 |lookup ok z=>simp[rV,rI] at hv
 |toStr=>simp[rV,rI,l1] at hv
 |HC=>simp[rV,rI] at hv
 |entry=>simp[rV] at hv
theorem KR{s s':Nat→Nat}{n n':Nat}{F F':Nat→Prop}{h h':Heap}{v x y:AV}(r:Rel s n F h v x)(r':Rel s' n' F' h' v y)(ha:∀b,b<n→b<n'→s' b=s b)(hd:v.dt=true):y=x:=by
 cases v with
 |ptr b o=>cases r with|ptr h1=>cases r' with|ptr h2=>rw[ha _ h1 h2]
 |sl b o l c op=>cases r with|sl h1=>cases r' with|sl h2=>rw[ha _ h1 h2]
 |map b=>cases r with|map h1=>cases r' with|map h2=>rw[ha _ h1 h2]
 |yield b=>cases r with|yield h1=>cases r' with|yield h2=>rw[ha _ h1 h2]
 |rest b o k=>cases r with|rest h1=>cases r' with|rest h2=>rw[ha _ h1 h2]
 |_=>rw[r.iK hd,r'.iK hd]
theorem Fs{s s':Nat→Nat}{n n':Nat}{F F':Nat→Prop}{h h':Heap}{v x:AV}(r:Rel s n F h v x)(ha:∀b,b<n→b<n'→s b=s' b)(hd:Dc n' v=true):Rel s' n' F' h' v x:=by
 cases v with
 |ptr b o=>
  cases r with
  |ptr h1=>
   have h2:b<n':=Nat.le_of_ble_eq_true hd;rw[ha _ h1 h2];exact .ptr h2
 |sl b o l c op=>
  cases r with
  |sl h1=>
   have h2:b<n':=Nat.le_of_ble_eq_true hd;rw[ha _ h1 h2];exact .sl h2
 |_=>
  rw[r.iK hd];exact .dU hd
theorem wG{s s':Nat→Nat}{n n':Nat}{F F':Nat→Prop}{h h':Heap}(ha:∀b,b<n→b<n'→s b=s' b):∀{l m:List AV},aX s n F h l m→tL n' l=true→aX s' n' F' h' l m
 |[],m,r,_=>by
  have:m=[]:=List.length_eq_zero_iff.1 r.1.symm;subst this;exact .nil
 |v::l,[],r,_=>by have:=r.1;simp at this
 |v::l,x::m,r,hd=>by
  simp only[tL,Bool.and_eq_true] at hd;exact .cons (Fs (r.2 0 v x rfl rfl) ha hd.1) (wG ha ⟨by simpa using r.1,fun i a b ha hb=>r.2 (i+1) a b ha hb⟩ hd.2)
theorem TR.fin{l:List bp}{e e':Env}{tr jZ:List aK}(t:TR s F g h l e e' tr jZ s1 F1 g1 h1):g.next≤g1.next∧∀b,b<g.next→s1 b=s b:=by
 induction t with
 |nil _=>exact⟨Nat.le_refl _,fun _ _=>rfl⟩
 |cons _ _ ho _ _ _ _ _ _ _ _ ih=>exact⟨Nat.le_trans ho.next ih.1,fun b hb=>(ih.2 b (Nat.lt_of_lt_of_le hb ho.next)).trans (ho.bA b hb)⟩
theorem KL{l:List bp}{e e':Env}{tr jZ:List aK}(t:TR s F g h l e e' tr jZ s1 F1 g1 h1)(vI:HR s0 F0 g0 h0):(∀b,b<g0.next→s1 b=s0 b)→(∀b,F0 b→F b∧h.get b=h0.get b)→∀{n:Nat} {P:Nat→Bool},jF l=true→U7 P s0 g0.next F0 h0 e e'→yJ g0 P l tr n→
  ∀(i:bp) (m':aK) (o:BU),l[n]?=some i→jZ[n]?=some m'→i.op=.r o→rI o m'.vals h0=some m'.v:=by
 induction t with
 |nil _=>intro _ _ n P _ _ hw;simp[yJ] at hw
 |@cons s F g h s1 F1 g1 h1 s2 F2 g2 h2 e e' i l m m' tr jZ hr he ho hmg A2 gb hv A7 hok hoff tl ih=>
  intro hE hK n P hc hP hw;simp only[jF,Bool.and_eq_true] at hc;cases n with
  |zero=>
   intro j k o hj hk hop;simp only[List.getElem?_cons_zero,Option.some.injEq] at hj hk;subst hj hk;obtain⟨w1,w2,w5⟩:=hw;obtain⟨a1,a2,a3,a4⟩:=hok w2;have q:aX s0 g0.next F0 h0 m.vals m'.vals:=by
    rcases Bool.or_eq_true_iff.1 w1 with w1|w1
    ·rw[hv,A7];exact hP.Co w1 hc.1.2 a1
    ·exact wG (fun b oA gn=>((ho.bA b oA).symm.trans (tl.fin.2 b (Nat.lt_of_lt_of_le oA ho.next)).symm).trans (hE b gn)) a2 w1
   rcases w5 with⟨w3,w4⟩|⟨cs,o1,mT⟩
   rotate_left
   ·rw[mT] at q;obtain⟨y,hy,CE⟩:=q.one;cases CE with
    |fp hF _ _ _ _=>
     have h5:=(a4.2 o hop).1;rw[hy] at h5⊢;exact CZ (H7 (a4.2 o hop).2) (hK _ hF).2.symm h5
   have OB:CR (.r o)=true:=hop▸hc.1.1;obtain⟨v',b1,b2⟩:=zG vI q OB (w4 o hop);rw[b1,KR b2 a3 (fun b oA gn=>(tl.fin.2 b gn).symm.trans (hE b oA)) w3]
  |succ n=>
   intro j k o hj hk hop;refine ih hE (fun b hb=>⟨ho.sub b (hK b hb).1,(ho.jV hr b (hK b hb).1).trans (hK b hb).2⟩) hc.2 ?_ hw j k o (by simpa using hj) (by simpa using hk) hop;intro u v hu cu;unfold AO at hu;cases hd:i.dst with
   |none=>
    rw[hd] at hu cu;simp only[Env.put] at cu⊢;exact hP u v hu cu
   |some d=>
    rw[hd] at hu cu;simp only[Env.put] at cu⊢;rw[tU];rw[Tr.aT] at cu;by_cases Sb:u=d
    ·subst Sb;rw[if_pos rfl] at cu⊢;simp only[Nat.beq_refl,cond_true] at hu;cases cu
     cases Hf:m.on with
     |false=>
      obtain⟨z1,z2⟩:=hoff Hf;rw[z1,z2];exact .undef
     |true=>
      obtain⟨a1,a2,a3,a4⟩:=hok Hf;cases CD:i.op with
      |p o2=>
       rw[CD] at hu;obtain⟨c1,c2⟩:=a4.1 o2 CD;have q:aX s0 g0.next F0 h0 m.vals m'.vals:=by rw[hv,A7];exact hP.Co hu hc.1.2 a1
       have OB:HZ o2=true:=by have:=hc.1.1;rw[CD] at this;exact this
       obtain⟨v',b1,b2⟩:=HV q OB c1;rw[c2] at b1;cases b1
       exact b2
      |r o2=>
       rw[CD] at hu;simp only[Bool.and_eq_true] at hu;obtain⟨d1,d2⟩:=a4.2 o2 CD;have q:aX s0 g0.next F0 h0 m.vals m'.vals:=by rw[hv,A7];exact hP.Co hu.1 hc.1.2 a1
       obtain⟨cs,o1,mT⟩:=JX hu.2;rw[mT] at q d2;have d3:=SG d2 g0;have OB:CR (.r o2)=true:=by have:=hc.1.1;rw[CD] at this;exact this
       obtain⟨v',b1,b2⟩:=zG vI q OB d3;obtain⟨y,hy,CE⟩:=q.one;cases CE with
       |fp hF _ _ _ _=>
        rw[hy] at d1 b1;rw[CZ (H7 d2) (hK _ hF).2.symm d1] at b1;cases b1
        exact b2
      |_=>rw[CD] at hu;simp at hu
    ·rw[if_neg Sb] at cu⊢;have hb:Nat.beq u d=false:=by
      cases hb:Nat.beq u d with
      |false=>rfl
      |true=>exact absurd (Nat.eq_of_beq_eq_true hb) Sb
     simp only[hb,cond_false] at hu;exact hP u v hu cu
theorem TR.from{l:List bp}{e e':Env}{tr jZ:List aK}(t:TR s F g h l e e' tr jZ s1 F1 g1 h1):dQ tr g1=g∧dQ jZ h1=h∧HR s F g h:=by
 cases t with
 |nil hr=>exact⟨rfl,rfl,hr⟩
 |cons hr _ _ hg hh=>exact⟨hg,hh,hr⟩
theorem Fc{l:List bp}{e e':Env}{tr jZ:List aK}(t:TR s F g h l e e' tr jZ s1 F1 g1 h1):∀{q:Tr bP} {b:Nat} {x:bP},b<h.next→Tr.get q b=some x→Tr.get (fu l jZ q) b=some x:=by
 induction t with
 |nil _=>intro q b x _ hq;exact hq
 |@cons s F g h s1 F1 g1 h1 s2 F2 g2 h2 e e' i l m m' tr jZ hr he ho hmg A2 gb hv A7 hok hoff _ ih=>
  intro q b x hb hq;have oA:b<h1.next:=Nat.lt_of_lt_of_le hb ho.hnext;unfold fu;split
  ·refine ih oA ?_;rw[Tr.aT,A2,if_neg (by omega)];exact hq
  ·exact ih oA hq
theorem TR.drop{l:List bp}{e e':Env}{tr jZ:List aK}(t:TR s F g h l e e' tr jZ s1 F1 g1 h1):∀c,c<tr.length→
  ∃s0 F0 g0 h0 e0 Cm,TR s0 F0 g0 h0 (l.drop c) e0 Cm (tr.drop c) (jZ.drop c) s1 F1 g1 h1∧ER s0 g0.next F0 h0 e0 Cm:=by
 induction t with
 |nil _=>intro c hc;simp at hc
 |@cons s F g h s1 F1 g1 h1 s2 F2 g2 h2 e e' i l m m' tr jZ hr he ho hmg A2 gb hv A7 hok hoff t ih=>
  intro c hc;cases c with
  |zero=>exact⟨s,F,g,h,e,e',.cons hr he ho hmg A2 gb hv A7 hok hoff t,he⟩
  |succ c=>exact ih c (by simpa using hc)
theorem TR.late{l:List bp}{e e':Env}{tr jZ:List aK}(t:TR s F g h l e e' tr jZ s1 F1 g1 h1):∀{vals vals':List AV},aX s g.next F h vals vals'→∀c,c<tr.length→
  ∃s0 F0 g0 h0 e0 Cm,TR s0 F0 g0 h0 (l.drop c) e0 Cm (tr.drop c) (jZ.drop c) s1 F1 g1 h1∧aX s0 g0.next F0 h0 vals vals'∧∀b,F b→h0.get b=h.get b:=by
 induction t with
 |nil _=>intro _ _ _ c hc;simp at hc
 |@cons s F g h s1 F1 g1 h1 s2 F2 g2 h2 e e' i l m m' tr jZ hr he ho hmg A2 gb hv A7 hok hoff t ih=>
  intro vals vals' q c hc;cases c with
  |zero=>exact⟨s,F,g,h,e,e',.cons hr he ho hmg A2 gb hv A7 hok hoff t,q,fun _ _=>rfl⟩
  |succ c=>
   obtain⟨s0,F0,g0,h0,e0,Cm,t0,q0,k0⟩:=ih (q.mono ho.bA ho.next ho.sub (ho.jV hr)) c (by simpa using hc);exact⟨s0,F0,g0,h0,e0,Cm,t0,q0,fun b hb=>(k0 b (ho.sub b hb)).trans (ho.jV hr b hb)⟩
theorem TR.at{l:List bp}{e e':Env}{tr jZ:List aK}(t:TR s F g h l e e' tr jZ s1 F1 g1 h1):∀(k:Nat) (m m':aK),tr[k]?=some m→jZ[k]?=some m'→m.on=true→
  ∃s0 F0 g0 h0 e0 Cm,TR s0 F0 g0 h0 (l.drop k) e0 Cm (tr.drop k) (jZ.drop k) s1 F1 g1 h1∧aX s0 g0.next F0 h0 m.vals m'.vals∧(∃sK nK FK hK,Rel sK nK FK hK m.v m'.v∧∀b,b<nK→s1 b=sK b)∧∀i o,l[k]?=some i→i.op=.r o→rI o m'.vals h0=some m'.v∧o≠.entry:=by
 induction t with
 |nil _=>intro k m m' hm;simp at hm
 |@cons s F g h s1 F1 g1 h1 s2 F2 g2 h2 e e' i l m m' tr jZ hr he ho hmg A2 gb hv A7 hok hoff t ih=>
  intro k n n' hn hn' hno;cases k with
  |zero=>
   simp only[List.getElem?_cons_zero,Option.some.injEq] at hn hn';subst hn hn';obtain⟨a1,a2,a3,a4⟩:=hok hno;exact⟨s,F,g,h,e,e',.cons hr he ho hmg A2 gb hv A7 hok hoff t,a2,⟨_,_,_,_,a3,t.fin.2⟩,fun j o hj hop=>by simp only[List.getElem?_cons_zero,Option.some.injEq] at hj;subst hj;exact⟨(a4.2 o hop).1,H7 (a4.2 o hop).2⟩⟩
  |succ k=>
   obtain⟨s0,F0,g0,h0,e0,Cm,t0,q0,p0,r0⟩:=ih k n n' (by simpa using hn) (by simpa using hn') hno;exact⟨s0,F0,g0,h0,e0,Cm,t0,q0,p0,fun j o hj hop=>r0 j o (by simpa using hj) hop⟩
theorem we{u:Nat→Heap}:∀{l:List bp} {win:List (List Nat)} {tr:List aK},
  (∀(k:Nat) i cs m o,l[k]?=some i→win[k]?=some cs→tr[k]?=some m→i.op=.r o→m.on=true→∀c∈cs,rI o m.vals (u c)=some m.v)→cz u l win tr
 |[],_,_,_=>by simp[cz]
 |_::_,[],_,_=>by simp[cz]
 |_::_,_::_,[],_=>by simp[cz]
 |x::l,cs::win,m::tr,h=>by
  simp only[cz];refine⟨?_,we fun k i cs m o h1 h2 h3=>h (k+1) i cs m o (by simpa using h1) (by simpa using h2) (by simpa using h3)⟩;split
  ·rename_i o ho;intro gb c hc;exact h 0 x cs m o rfl rfl rfl ho gb c hc
  ·trivial
theorem ya:∀{l:List bp} (c:Nat),jF l=true→jF (l.drop c)=true
 |l,0,h=>h
 |[],c+1,h=>rfl
 |i::l,c+1,h=>by
  simp only[jF,Bool.and_eq_true] at h;exact ya c h.2
theorem TR.len{l:List bp}{e e':Env}{tr jZ:List aK}(t:TR s F g h l e e' tr jZ s1 F1 g1 h1):tr.length=jZ.length∧∀(k:Nat) (m m':aK),tr[k]?=some m→jZ[k]?=some m'→m'.on=m.on:=by
 induction t with
 |nil _=>exact⟨rfl,fun k m m' hm=>by simp at hm⟩
 |cons _ _ _ _ _ gb _ _ _ _ _ ih=>
  refine⟨by simp[ih.1],fun k m m' hm hm'=>?_⟩;cases k with
  |zero=>
   simp only[List.getElem?_cons_zero,Option.some.injEq] at hm hm';subst hm hm';exact gb
  |succ k=>exact ih.2 k m m' (by simpa using hm) (by simpa using hm')
theorem yL{l:List bp}{win:List (List Nat)}{e e':Env}{tr jZ:List aK}(hc:jF l=true)(t:TR s F g h l e e' tr jZ s1 F1 g1 h1)(hw:um l win tr g1):lF l win jZ h1:=by
 refine we fun k i cs m' o K0 h2 h3 hop gb c eE=>?_;have hk':k<jZ.length:=(List.getElem?_eq_some_iff.1 h3).1;have hk:k<tr.length:=by rw[t.len.1];exact hk'
 have hm:tr[k]?=some tr[k]:=List.getElem?_eq_getElem hk;have Hf:tr[k].on=true:=by rw[←t.len.2 k _ _ hm h3];exact gb
 have key:∀s0 F0 g0 h0 e0 Cm,TR s0 F0 g0 h0 (l.drop c) e0 Cm (tr.drop c) (jZ.drop c) s1 F1 g1 h1→rI o m'.vals h0=some m'.v→rI o m'.vals (cA l jZ h1 c)=some m'.v:=by
  intro s0 F0 g0 h0 e0 Cm t0 hr;obtain⟨f1,f2,f3⟩:=t0.from;refine D3 (fun b x hb=>?_) hr;have hlt:b<h0.next:=by
   by_cases hl:b<h0.next
   ·exact hl
   ·rw[f3.qz b (by omega)] at hb;simp at hb
  show Tr.get (fu (l.drop c) (jZ.drop c) (dQ (jZ.drop c) h1).m) b=some x;rw[f2];exact Fc t0 hlt hb
 rcases hw k i cs _ o K0 h2 hm hop Hf c eE with⟨w1,w2⟩|⟨w1,w2,w5⟩
 ·obtain⟨s0,F0,g0,h0,e0,Cm,t0,er0⟩:=t.drop c (by omega);obtain⟨f1,f2,f3⟩:=t0.from;rw[f1] at w2;have hr:=KL t0 f3 t0.fin.2 (fun b hb=>⟨hb,rfl⟩) (ya c hc) (fun i v _ hv=>er0 i v hv) w2 i m' o (by rw[List.getElem?_drop];rw[show c+(k-c)=k by omega];exact K0) (by rw[List.getElem?_drop];rw[show c+(k-c)=k by omega];exact h3) hop;exact key _ _ _ _ _ _ t0 hr
 ·obtain⟨s0,F0,g0,h0,e0,Cm,t0,q,jn,hrd⟩:=t.at k _ _ hm h3 Hf;obtain⟨s2,F2,g2,xo,e2,BV,t2,q2,hkeep⟩:=t0.late q (c-k) (by rw[List.length_drop];omega);simp only[List.drop_drop,show k+(c-k)=c by omega] at t2;obtain⟨f1,f2,f3⟩:=t2.from;rcases w5 with⟨w3,w4⟩|⟨cs1,o1,mT⟩
  rotate_left
  ·obtain⟨h5,hne⟩:=hrd i o K0 hop;rw[mT] at q;obtain⟨y,hy,CE⟩:=q.one;cases CE with
   |fp hF _ _ _ _=>
    rw[hy] at h5;refine key _ _ _ _ _ _ t2 ?_;rw[hy];exact CZ hne (hkeep _ hF) h5
  rw[f1] at w4;have OB:CR (.r o)=true:=by
   have:∀{l:List bp} {k:Nat} {i:bp},jF l=true→l[k]?=some i→CR i.op=true:=by
    intro l;induction l with
    |nil=>intro k i _ h;simp at h
    |cons j l ih=>
     intro k i hc h;simp only[jF,Bool.and_eq_true] at hc;cases k with
     |zero=>simp only[List.getElem?_cons_zero,Option.some.injEq] at h;subst h;exact hc.1.1
     |succ k=>exact ih hc.2 (by simpa using h)
   exact hop▸this hc K0
  obtain⟨v',b1,b2⟩:=zG f3 q2 OB w4;refine key _ _ _ _ _ _ t2 ?_;obtain⟨sK,nK,FK,hK,k1,k2⟩:=jn;rw[b1,KR b2 k1 (fun b oA gn=>(k2 b gn).symm.trans (t2.fin.2 b oA)) w3]
end
theorem so{l m:List bp}:jF (l++m)=(jF l&&jF m):=by
 induction l with
 |nil=>simp[jF]
 |cons i l ih=>simp only[List.cons_append,jF,ih,Bool.and_assoc]
theorem VS.sim(T9:∀f af,fs f=some af→eS af.body=true){B:Nat}{t:Task}{r:iF}(hv:VS fs ms B t r):Sim fs ms B t r:=by
 induction hv with
 |skip=>intro _ hB s F h e' hr he;exact⟨s,F,h,e',.skip,.refl hr hB,he⟩
 |ops _ ih=>
  intro hc hB s F h e' hr he;obtain⟨s1,F1,h1,mN,jZ,a1,a2,a3,_⟩:=ih hc s F h e' hr he;exact⟨s1,F1,h1,mN,.ops a1,a2.weaken hB,a3⟩
 |bI hw _ ih=>
  intro hc hB s F h e' hr he;obtain⟨s1,F1,h1,mN,jZ,a1,a2,a3,_⟩:=ih hc s F h e' hr he;exact⟨s1,F1,h1,mN,.bI a1 (mB hw),a2.weaken hB,a3⟩
 |Gi hw _ ih=>
  intro hc hB s F h e' hr he;obtain⟨s1,F1,h1,mN,jZ,a1,a2,a3,a4⟩:=ih hc s F h e' hr he;exact⟨s1,F1,h1,mN,.bI a1 (yL hc a4 hw),a2.weaken hB,a3⟩
 |@wC B rd a b e g e1 g1 r _ _ rm ng=>
  cases r with
  |code x e2 g2=>
   intro hc hB s F h e' hr he;simp only[eS,Bool.and_eq_true] at hc;obtain⟨s1,F1,h1,mN,a1,a2,a3⟩:=rm hc.1 hB s F h e' hr he;obtain⟨s2,F2,h2,BV,b1,b2,b3⟩:=ng hc.2 a2.next s1 F1 h1 mN a2.hr a3;exact⟨s2,F2,h2,BV,.wC a1 b1,a2.trans hr b2,b3⟩
  |ops _ _ _=>exact ng.elim
  |val _ _=>exact ng.elim
  |jh _ _=>exact ng.elim
  |post _=>exact ng.elim
 |oz _ hx rm=>
  intro hc hB s F h e' hr he;simp only[eS,Bool.and_eq_true] at hc;obtain⟨s1,F1,h1,mN,a1,a2,a3⟩:=rm hc.1 hB s F h e' hr he;exact⟨s1,F1,h1,mN,.oz a1 hx,a2,a3⟩
 |@cond B rd c a b e g t r hao ht _ ih=>
  cases r with
  |code x e2 g2=>
   intro hc hB s F h e' hr he;simp only[eS,Bool.and_eq_true] at hc;have hce:=he.ev hc.1.1 hao;rw[ht] at hce;have eE:eS (bif t then a else b)=true:=by cases t;exact hc.2;exact hc.1.2
   obtain⟨s1,F1,h1,mN,a1,a2,a3⟩:=ih eE hB s F h e' hr he;exact⟨s1,F1,h1,mN,.cond hce.Aq a1,a2,a3⟩
  |ops _ _ _=>exact ih.elim
  |val _ _=>exact ih.elim
  |jh _ _=>exact ih.elim
  |post _=>exact ih.elim
 |nw _ ih=>
  intro hc hB s F h e' hr he;obtain⟨s1,F1,h1,mN,a1,a2,a3⟩:=ih hc hB s F h e' hr he;exact⟨s1,F1,h1,mN,.nw a1,a2,a3⟩
 |eR _ hx ih=>
  intro hc hB s F h e' hr he;obtain⟨s1,F1,h1,mN,a1,a2,a3⟩:=ih hc hB s F h e' hr he;exact⟨s1,F1,h1,mN,.eR a1 hx,a2,a3⟩
 |@lE B rd c e g e1 g1 r _ _ rm ng=>
  cases r with
  |code x e2 g2=>
   intro hc hB s F h e' hr he;obtain⟨s1,F1,h1,mN,a1,a2,a3⟩:=rm hc hB s F h e' hr he;obtain⟨s2,F2,h2,BV,b1,b2,b3⟩:=ng hc a2.next s1 F1 h1 mN a2.hr a3;exact⟨s2,F2,h2,BV,.lE a1 b1,a2.trans hr b2,b3⟩
  |ops _ _ _=>exact ng.elim
  |val _ _=>exact ng.elim
  |jh _ _=>exact ng.elim
  |post _=>exact ng.elim
 |cT _ hx rm=>
  intro hc hB s F h e' hr he;obtain⟨s1,F1,h1,mN,a1,a2,a3⟩:=rm hc hB s F h e' hr he;exact⟨s1,F1,h1,mN,.cT a1 hx,a2,a3⟩
 |exit=>intro _ hB s F h e' hr he;exact⟨s,F,h,e',.exit,.refl hr hB,he⟩
 |ret=>intro _ hB s F h e' hr he;exact⟨s,F,h,e',.ret,.refl hr hB,he⟩
 |@rangeFunc B gg ps a b e g f first aO v g2 st x hao vC _ hl hst hx ih=>
  intro hc hB s F h e' hr he;simp only[eS,Bool.and_eq_true] at hc;have hg:=he.ev hc.1.1 hao;rw[vC] at hg;generalize hg':e'.ev gg=fv at hg;cases hg with
  |@func _ _ first' _ oK f1 f2 f3 f4=>
   have o1:=sy (x:=.loop 0 none e ps a b) (x':=.loop 0 none e' ps a b) hr (.loop he hc.1.2 hc.2);have hs0:j0 s g.next h.next g.next=h.next:=by unfold j0;rw[if_pos rfl]
   have hm:∀{l l':List AV},aX s g.next F h l l'→aX (j0 s g.next h.next) (g.new (.loop 0 none e ps a b)).next F (h.new (.loop 0 none e' ps a b)) l l':=
    fun q=>q.mono o1.bA o1.next (fun _=>id) (o1.jV hr)
   have hy:Rel (j0 s g.next h.next) (g.new (.loop 0 none e ps a b)).next F (h.new (.loop 0 none e' ps a b)) (.yield g.next) (.yield h.next):=by
    have:=Rel.yield (s:=j0 s g.next h.next) (n:=(g.new (.loop 0 none e ps a b)).next) (F:=F) (h:=h.new (.loop 0 none e' ps a b)) (b:=g.next) (by simp);rw[hs0] at this;exact this
   obtain⟨s2,F2,h2,v',b1,b2,b3⟩:=ih _ F _ _ o1.hr ((hm ⟨f1,f2⟩).append (.cons hy (hm ⟨f3,f4⟩)));have o2:=o1.trans hr (b2.weaken (by simp));have wS:s2 g.next=h.next:=by rw[b2.bA _ (by simp),hs0]
   obtain⟨y,Ht,zh⟩:=b2.hr.bH _ _ hl;obtain⟨e3,rfl,he3,c1,c2⟩:=mV zh;rw[wS] at Ht;obtain⟨st',p',hk⟩:=b2.loops h.next 0 none e' ps a b (by rw[Heap.bT,if_pos rfl]);rw[hk] at Ht;cases Ht
   have iB:=nU (b:=g.next) (x:=.loop 3 (cU x) e ps a b) (x':=.loop 3 (cU x) e' ps a b) b2.hr (by rw[hl];simp)
    (.loop he3 c1 c2) (by
     intro st p e5 ps5 a5 c5 eE;rw[wS,hk] at eE;cases eE
     exact⟨_,_,rfl⟩)
   rw[wS] at iB;refine⟨s2,F2,_,e',.rangeFunc hg' b1 hk hst hx,(o2.weaken hB).trans hr (iB.weaken (Nat.le_trans hB o2.next)),?_⟩;exact he.mono o2.bA o2.next o2.sub (fun c hc=>by rw[iB.jV b2.hr c (o2.sub c hc),o2.jV hr c hc])
 |@BX B rd c e g i v v' bs r vC hf _ ih=>
  cases r with
  |code x e2 g2=>
   intro hc hB s F h e' hr he;have o1:=zb hr bs;have tY:ER s (cg bs g).next (fun b=>F b∨∃c,c∈bs∧g.get c≠none∧s c=b) h (Tr.set e i v') e':=by
    rw[bF];intro t u hu;rw[Tr.aT] at hu;split at hu
    ·rename_i ht;subst ht;cases hu
     exact p4 hf hr (fun _ hb=>.inl hb) (fun b hb hn=>.inr ⟨b,hb,hn,rfl⟩) (he t v vC)
    ·exact(he t u hu).mono (fun _ _=>rfl) (Nat.le_refl _) (fun _ hb=>.inl hb) (fun _ _=>rfl)
   obtain⟨s1,F1,h1,mN,a1,a2,a3⟩:=ih hc (by rw[bF];exact hB) s _ h e' o1.hr tY;exact⟨s1,F1,h1,mN,a1,(o1.weaken hB).trans hr a2,a3⟩
  |ops _ _ _=>exact ih.elim
  |val _ _=>exact ih.elim
  |jh _ _=>exact ih.elim
  |post _=>exact ih.elim
 |@drop B rd c e g e1 r hd _ ih=>
  cases r with
  |code x e2 g2=>
   intro hc hB s F h e' hr he;exact ih hc hB s F h e' hr (fun i v hv=>he i v (hd i v hv))
  |ops _ _ _=>exact ih.elim
  |val _ _=>exact ih.elim
  |jh _ _=>exact ih.elim
  |post _=>exact ih.elim
 |@gc B rd c e g p e1 g1 r RF _ ih=>
  cases r with
  |code x e2 g2=>
   intro hc hB s F h e' hr he;obtain⟨o1,tY⟩:=NZ hr he RF;obtain⟨s1,F1,h1,mN,a1,a2,a3⟩:=ih hc RF.next _ F h e' o1.hr tY;exact⟨s1,F1,h1,mN,a1,o1.trans hr a2,a3⟩
  |ops _ _ _=>exact ih.elim
  |val _ _=>exact ih.elim
  |jh _ _=>exact ih.elim
  |post _=>exact ih.elim
 |nil=>intro _ s F h e' hr he;exact⟨s,F,h,e',[],.nil,.refl hr (Nat.le_refl _),he,.nil hr⟩
 |@off B rd i l e g tr e1 g1 hw _ ih=>
  intro hc s F h e' hr he;simp only[jF,Bool.and_eq_true] at hc;obtain⟨s1,F1,h1,mN,jZ,a1,a2,a3,a4⟩:=ih hc.2 s F h (e'.put i.dst .undef) hr (he.put i.dst .undef);exact⟨s1,F1,h1,mN,_,.off (lM he hw) a1,a2,a3,.cons hr he (.refl hr (Nat.le_refl _)) rfl rfl rfl rfl rfl (fun h=>by simp at h) (fun _=>⟨rfl,rfl⟩) a4⟩
 |@on B rd i l e g v g1 tr e1 g2 hw hj hop _ uc ihl=>
  intro hc s F h e' hr he;simp only[jF,Bool.and_eq_true] at hc;obtain⟨s1,F1,h1,v',a1,a2,a3⟩:=uc hc.1.1 s F h _ hr (he.Co hc.1.2 hj);have tY:ER s1 g1.next F1 h1 (e.put i.dst v) (e'.put i.dst v'):=(he.mono a2.bA a2.next a2.sub (a2.jV hr)).put i.dst a3;obtain⟨s2,F2,h2,BV,jZ,b1,b2,b3,b4⟩:=ihl hc.2 s1 F1 h1 _ a2.hr tY;refine⟨s2,F2,h2,BV,_,.on (lM he hw) a1 b1,a2.trans hr (b2.weaken a2.next),b3,.cons hr he a2 rfl rfl rfl rfl rfl (fun _=>⟨hj,he.Co hc.1.2 hj,a3,fun o ho=>?_,fun o ho=>?_⟩) (fun h=>by simp at h) b4⟩
  rotate_left
  ·refine⟨?_,?_⟩
   ·rw[ho] at a1;cases a1 with
    |DT hp=>exact hp
   ·rw[ho] at hop;cases hop with
    |DT hp=>exact hp
  refine⟨?_,?_⟩
  ·rw[ho] at hop;cases hop with
   |B6 hp=>exact hp
  ·rw[ho] at a1;cases a1 with
   |B6 hp=>exact hp
 |B6 hp=>
  intro hc s F h vals' hr q;obtain⟨v',a1,a2⟩:=HV q hc hp;exact⟨s,F,h,v',.B6 a1,.refl hr (Nat.le_refl _),a2⟩
 |@Kc B rd o vals g x f hp=>
  intro hc s F h vals' hr q;obtain⟨x',a1,a2,a3⟩:=Nw hr q hc hp;have o1:=sy hr a2;have hs0:j0 s g.next h.next g.next=h.next:=by unfold j0;rw[if_pos rfl]
  refine⟨_,F,_,_,.Kc a1,o1,?_⟩;have:=a3 (s1:=j0 s g.next h.next) (n1:=(g.new x).next) (F1:=F) (h1:=h.new x') (by simp);rw[hs0] at this;exact this
 |DT hp=>
  intro hc s F h vals' hr q;obtain⟨v',a1,a2⟩:=zG hr q hc hp;exact⟨s,F,h,v',.DT a1,.refl hr (Nat.le_refl _),a2⟩
 |rL hp=>
  intro hc s F h vals' hr q;obtain⟨s1,v',h1,a1,a2,a3⟩:=NJ hr q hc hp;exact⟨s1,F,h1,v',.rL a1,a2,a3⟩
 |SA hp=>
  intro hc s F h vals' hr q;obtain⟨s1,v',h1,a1,a2,a3⟩:=Js hr q hp;exact⟨s1,F,h1,v',.SA a1,a2,a3⟩
 |jH _ ih=>
  intro hc s F h vals' hr q;obtain⟨EP,args',rfl,q1,q2⟩:=q.cons_inv;obtain⟨s1,F1,h1,v',a1,a2,a3⟩:=ih s F h EP args' hr q1 q2;exact⟨s1,F1,h1,v',.jH a1,a2,a3⟩
 |jX hm _ ih=>
  intro hc s F h vals' hr q;obtain⟨y,args',rfl,q1,q2⟩:=q.cons_inv;cases q1 with
  |iface q1=>
   obtain⟨s1,F1,h1,v',a1,a2,a3⟩:=ih s F h _ hr (.cons q1 q2);exact⟨s1,F1,h1,v',.jX hm a1,a2,a3⟩
 |cK _ ih=>
  intro s F h EP args' hr q1 q2;cases q1 with
  |func f1 f2 f3 f4=>
   obtain⟨s1,F1,h1,v',a1,a2,a3⟩:=ih s F h _ hr (aX.append ⟨f1,f2⟩ (q2.append ⟨f3,f4⟩));exact⟨s1,F1,h1,v',.cK a1,a2,a3⟩
 |@yield B L args g cw e ps a b e2 g2 bW x e4 g4 Ee mc hg hlen _ zj _ hx I0 rm ng=>
  intro s F h EP args' hr q1 q2;cases q1 with
  |yield hL=>
   obtain⟨y,hy,zh⟩:=hr.bH _ _ hg;obtain⟨e',rfl,he,c1,c2⟩:=mV zh;obtain⟨s1,F1,h1,BV,a1,a2,a3⟩:=rm c1 (Nat.le_refl _) s F h _ hr (he.eW (ps:=ps) q2);have uH:s1 L=s L:=a2.bA L hL;obtain⟨y2,Ht,Oc⟩:=a2.hr.bH _ _ zj;obtain⟨e5,rfl,XH,_,_⟩:=mV Oc;obtain⟨st',p',hk⟩:=a2.loops _ _ _ _ _ _ _ hy;rw[uH] at Ht;rw[hk] at Ht;cases Ht
   have iB:=nU (b:=L) (x:=.loop 1 bW e ps a b) (x':=.loop 1 bW e' ps a b) a2.hr (by rw[zj];simp) (.loop XH c1 c2) (by
    intro st p e6 ZS a6 c6 eE;rw[uH,hk] at eE;cases eE
    exact⟨_,_,rfl⟩)
   rw[uH] at iB;have Xr:ER s1 (g2.set L (.loop 1 bW e ps a b)).next F1 (h1.set (s L) (.loop 1 bW e' ps a b)) e2 BV:=a3.mono (fun _ _=>rfl) (Nat.le_refl _) (fun _=>id) (iB.jV a2.hr)
   obtain⟨s2,F2,h2,W2,b1,b2,b3⟩:=ng c2 (Nat.le_trans a2.next (by simp)) s1 F1 _ BV iB.hr Xr;have o3:=(a2.trans hr (iB.weaken a2.next)).trans hr b2;have wS:s2 L=s L:=o3.bA L hL;obtain⟨y4,ZL,XA⟩:=b2.hr.bH _ _ I0;obtain⟨e7,rfl,he7,_,_⟩:=mV XA;obtain⟨Z6,p'',hk2⟩:=o3.loops _ _ _ _ _ _ _ hy;rw[wS,hk2] at ZL;cases ZL
   have A6:=nU (b:=L) (x:=.loop (bif x.bB then 0 else 2) (cU x) e ps a b) (x':=.loop (bif x.bB then 0 else 2) (cU x) e' ps a b) b2.hr (by rw[I0];simp) (.loop he7 c1 c2) (by
    intro st p e6 ZS a6 c6 eE;rw[wS,hk2] at eE;cases eE
    exact⟨_,_,rfl⟩)
   rw[wS] at A6;exact⟨s2,F2,_,_,.yield hy (by rw[←q2.1];exact hlen) a1 hk b1 hx hk2,o3.trans hr (A6.weaken b2.next),.bool⟩
 |@call B f args g af x e1 g1 vs hf hlen _ hx hres ih=>
  intro s F h args' hr q;obtain⟨s1,F1,h1,mN,a1,a2,a3⟩:=ih (T9 f af hf) (Nat.le_refl _) s F h _ hr (ER.start af.ntmps q);obtain⟨vs',b1,b2⟩:=rC a2.hr a3 hres;exact⟨s1,F1,h1,_,.call hf (by rw[←q.1];exact hlen) a1 hx b1,a2,wz b2⟩
 |@iP B gg ps a b e g f first aO v g2 hao vC _ ih=>
  intro hc hB s F h e' hr he;simp only[eS,Bool.and_eq_true] at hc;have hg:=he.ev hc.1.1 hao;rw[vC] at hg;generalize hg':e'.ev gg=fv at hg;cases hg with
  |@func _ _ first' _ oK f1 f2 f3 f4=>
   have o1:=sy (x:=.loop 0 none e ps a b) (x':=.loop 0 none e' ps a b) hr (.loop he hc.1.2 hc.2);have hs0:j0 s g.next h.next g.next=h.next:=by unfold j0;rw[if_pos rfl]
   have hm:∀{l l':List AV},aX s g.next F h l l'→aX (j0 s g.next h.next) (g.new (.loop 0 none e ps a b)).next F (h.new (.loop 0 none e' ps a b)) l l':=
    fun q=>q.mono o1.bA o1.next (fun _=>id) (o1.jV hr)
   have hy:Rel (j0 s g.next h.next) (g.new (.loop 0 none e ps a b)).next F (h.new (.loop 0 none e' ps a b)) (.yield g.next) (.yield h.next):=by
    have:=Rel.yield (s:=j0 s g.next h.next) (n:=(g.new (.loop 0 none e ps a b)).next) (F:=F) (h:=h.new (.loop 0 none e' ps a b)) (b:=g.next) (by simp);rw[hs0] at this;exact this
   obtain⟨s2,F2,h2,b1,b2⟩:=ih _ F _ _ o1.hr ((hm ⟨f1,f2⟩).append (.cons hy (hm ⟨f3,f4⟩)));have o2:=o1.trans hr (b2.weaken (by simp));exact⟨s2,F2,h2,e',.iP hg' b1,o2.weaken hB,he.mono o2.bA o2.next o2.sub (o2.jV hr)⟩
 |@od B L args g cw e ps a id A l1 i l2 e2 g2 bW e3 g3 tr e4 g4 v g5 hg hlen _ hna zj B0 _ _ hw hj _ rm Hw ihl uc=>
  intro s F h EP args' hr q1 q2;cases q1 with
  |yield hL=>
   obtain⟨y,hy,zh⟩:=hr.bH _ _ hg;obtain⟨e',rfl,he,c1,c2⟩:=mV zh;have c2':=c2;simp only[eS,Bool.and_eq_true] at c2;have jC:jF (l1++i::l2)=true:=c2.2;rw[so,Bool.and_eq_true] at jC;simp only[jF,Bool.and_eq_true] at jC;obtain⟨s1,F1,h1,BV,a1,a2,a3⟩:=rm c1 (Nat.le_refl _) s F h _ hr (he.eW (ps:=ps) q2);have uH:s1 L=s L:=a2.bA L hL;obtain⟨y2,Ht,Oc⟩:=a2.hr.bH _ _ zj;obtain⟨e5,rfl,XH,_,_⟩:=mV Oc;obtain⟨st',p',hk⟩:=a2.loops _ _ _ _ _ _ _ hy;rw[uH] at Ht;rw[hk] at Ht;cases Ht
   have iB:=nU (b:=L) (x:=.loop 1 bW e ps a (.block id (.seq A (.ops (l1++i::l2))))) (x':=.loop 1 bW e' ps a (.block id (.seq A (.ops (l1++i::l2))))) a2.hr (by rw[zj];simp) (.loop XH c1 c2') (by
    intro st p e6 ZS a6 c6 eE;rw[uH,hk] at eE;cases eE
    exact⟨_,_,rfl⟩)
   rw[uH] at iB;have Xr:ER s1 (g2.set L (.loop 1 bW e ps a (.block id (.seq A (.ops (l1++i::l2)))))).next F1 (h1.set (s L) (.loop 1 bW e' ps a (.block id (.seq A (.ops (l1++i::l2)))))) e2 BV:=a3.mono (fun _ _=>rfl) (Nat.le_refl _) (fun _ hb=>hb) (iB.jV a2.hr)
   obtain⟨s2,F2,h2,NH,b1,b2,b3⟩:=Hw c2.1 (Nat.le_trans a2.next (by simp)) s1 F1 _ BV iB.hr Xr;have o3:=(a2.trans hr (iB.weaken a2.next)).trans hr b2;obtain⟨s3,F3,h3,W2,jZ,d1,d2,d3,_⟩:=ihl jC.1 s2 F2 h2 NH b2.hr b3;have o4:=o3.trans hr (d2.weaken b2.next);obtain⟨s4,F4,h4,f1,f2⟩:=uc jC.2.1.1 s3 F3 h3 _ d2.hr (d3.Co jC.2.1.2 hj);exact⟨s4,F4,h4,.od hy (by rw[←q2.1];exact hlen) a1 hna hk B0 b1 d1 (lM d3 hw) f1,o4.trans hr (f2.weaken o4.next)⟩
 |@zD B rd l1 i l2 e g tr e1 g1 v g2 _ hw hj _ ihl uc=>
  intro hc hB s F h e' hr he;have jC:jF (l1++i::l2)=true:=hc;rw[so,Bool.and_eq_true] at jC;simp only[jF,Bool.and_eq_true] at jC;obtain⟨s1,F1,h1,mN,jZ,a1,a2,a3,_⟩:=ihl jC.1 s F h e' hr he;obtain⟨s2,F2,h2,b1,b2⟩:=uc jC.2.1.1 s1 F1 h1 _ a2.hr (a3.Co jC.2.1.2 hj);exact⟨s2,F2,h2,mN,.zD a1 (lM a3 hw) b1,(a2.trans hr (b2.weaken a2.next)).weaken hB,a3.mono b2.bA b2.next b2.sub (b2.jV a2.hr)⟩
 |@tS B rd l1 i win e g tr e1 g1 v g2 _ tC mR xp hw hj _ ihl uc=>
  intro hc hB s F h e' hr he;have jC:jF (l1++[i])=true:=hc;rw[so,Bool.and_eq_true] at jC;simp only[jF,Bool.and_eq_true] at jC;obtain⟨s1,F1,h1,mN,jZ,a1,a2,a3,a4⟩:=ihl jC.1 s F h e' hr he;obtain⟨s2,F2,h2,b1,b2⟩:=uc jC.2.1.1 s1 F1 h1 _ a2.hr (a3.Co jC.2.1.2 hj);have A5:lF l1 (win.take l1.length) jZ h1:=by
   rcases tC with tC|tC
   ·refine mB ?_;rw[List.all_eq_true] at tC⊢;exact fun x hx=>tC x (List.mem_of_mem_take hx)
   ·exact yL jC.1 a4 tC
  exact⟨s2,F2,h2,mN,.tS a1 A5 mR xp (lM a3 hw) b1,(a2.trans hr (b2.weaken a2.next)).weaken hB,a3.mono b2.bA b2.next b2.sub (b2.jV a2.hr)⟩
 |@nM B rd t x g hp=>
  intro hc s F h vals' hr q;have:=q.iK (l:=[.iface t x]) (by simp[kS,AV.pl,hp]);subst this;exact⟨s,F,h,.nM,.refl hr (Nat.le_refl _)⟩
 |kG _ ih=>
  intro hc s F h vals' hr q;obtain⟨EP,args',rfl,q1,q2⟩:=q.cons_inv;obtain⟨s1,F1,h1,a1,a2⟩:=ih s F h EP args' hr q1 q2;exact⟨s1,F1,h1,.kG a1,a2⟩
 |kQ hm _ ih=>
  intro hc s F h vals' hr q;obtain⟨y,args',rfl,q1,q2⟩:=q.cons_inv;cases q1 with
  |iface q1=>
   obtain⟨s1,F1,h1,a1,a2⟩:=ih s F h _ hr (.cons q1 q2);exact⟨s1,F1,h1,.kQ hm a1,a2⟩
 |nB _ ih=>
  intro s F h EP args' hr q1 q2;cases q1 with
  |func f1 f2 f3 f4=>
   obtain⟨s1,F1,h1,a1,a2⟩:=ih s F h _ hr (aX.append ⟨f1,f2⟩ (q2.append ⟨f3,f4⟩));exact⟨s1,F1,h1,.nB a1,a2⟩
 |@tQ B f args g af v e1 g1 hf hlen _ ih=>
  intro s F h args' hr q;obtain⟨s1,F1,h1,mN,a1,a2,a3⟩:=ih (T9 f af hf) (Nat.le_refl _) s F h _ hr (ER.start af.ntmps q);exact⟨s1,F1,h1,.tQ hf (by rw[←q.1];exact hlen) a1,a2⟩
 |@rW B f args g af A l1 dst r rest e1 g1 tr e2 g2 gf first aO x e3 g3 ag t l2 dJ wV e4 y e5 g5 vs hf hlen GZ _ B0 _ hj vC _ hx Se hg AY hbody A0 DI _ jn _ hy hres Hw ihl ihr Un lT=>
  intro s F h args' hr q;have Cz:=T9 f af hf;rw[GZ] at Cz;simp only[eS,Bool.and_eq_true] at Cz;obtain⟨hcA,XC,hcR⟩:=Cz;rw[so,Bool.and_eq_true] at XC;have Ok:kf [r]=true:=by
   have:=XC.2;simp only[jF,om,kf,Bool.and_eq_true] at this;simp only[kf,Bool.and_true];exact this.1.2.2.1
  have T4:=T9 gf ag hg;rw[hbody] at T4;simp only[eS,jF,Bool.and_eq_true] at T4;obtain⟨s1,F1,h1,mN,a1,a2,a3⟩:=Hw hcA (Nat.le_refl _) s F h _ hr (ER.start af.ntmps q);obtain⟨s2,F2,h2,BV,jZ,b1,b2,b3,_⟩:=ihl XC.1 s1 F1 h1 mN a2.hr a3;have ZO:=a2.trans hr (b2.weaken a2.next);have hfr:=(b3.Co Ok hj).2 0 _ _ rfl rfl;rw[vC] at hfr;obtain⟨s3,F3,h3,NH,c1,c2,c3⟩:=ihr hcR (Nat.le_refl _) s2 F2 h2 _ b2.hr (b3.put dst .undef);have ZP:=ZO.trans hr (c2.weaken ZO.next);generalize hw:BV.ev r=fw at hfr;cases hfr with
  |func f1 f2 f3 f4=>
   rename_i first' oK;have Cx:aX s2 g2.next F2 h2 (first++aO) (first'++oK):=aX.append ⟨f1,f2⟩ ⟨f3,f4⟩;have hargs:aX s3 g3.next F3 h3 (first++aO) (first'++oK):=⟨Cx.1,fun i x y hx hy=>(Cx.2 i x y hx hy).mono c2.bA c2.next c2.sub (c2.jV b2.hr)⟩;have hstart:ER s3 g3.next F3 h3 ((Env.start ag.ntmps (first++aO)).put (some t) (mC x)) ((Env.start ag.ntmps (first'++oK)).put (some t) (mC x)):=(ER.start ag.ntmps hargs).put (some t) (.dU Se);obtain⟨s4,F4,h4,W2,Z7,d1,d2,d3,_⟩:=Un T4.1.2 s3 F3 h3 _ c2.hr hstart;have hh:=nO jn d1;subst hh;obtain⟨s5,F5,h5,e5',m1,m2,m3⟩:=lT T4.2 (Nat.le_refl _) s4 F4 h4 W2 d2.hr d3;have Sw:=d2.trans c2.hr (m2.weaken d2.next);have hall:=ZP.trans hr (Sw.weaken ZP.next);have e35:ER s5 g5.next F5 h5 e3 NH:=c3.mono Sw.bA Sw.next Sw.sub (Sw.jV c2.hr);obtain⟨vs',p1,p2⟩:=rC m2.hr e35 hres;exact⟨s5,F5,h5,_,.rW hf (by rw[←q.1];exact hlen) GZ a1 B0 b1 hw c1 hx hg (by rw[←Cx.1];exact AY) hbody A0 DI d1 jn m1 hy p1,hall,wz p2⟩
 |@pure B f args g v g1 v' _ ju hfz hcl' ih=>
  intro s F h args' hr q;have q0:aX s 0 F h args args':=q.clean ju;obtain⟨s1,F1,h1,w,a1,a2,a3⟩:=ih s F h args' (Gm hr) q0;have CE:Rel s1 g1.next (fun b=>F1 b∨∃c,g1.get c≠none∧s1 c=b) h1 v' w:=p4 hfz a2.hr (fun _ hb=>.inl hb) (fun b _ hn=>.inr ⟨b,hn,rfl⟩) a3;have hnew:∀b,(F1 b∨∃c,g1.get c≠none∧s1 c=b)→b<h.next→F b:=by
   rintro b (hb|⟨c,hc,rfl⟩) hlt
   ·rcases a2.new b hb hlt with hf|⟨c,hc,_⟩
    ·exact hf
    ·exact absurd rfl hc
   ·rcases a2.fresh c (Nat.zero_le _) hc with h1|⟨c0,h1,_⟩
    ·omega
    ·exact absurd rfl h1
  have oV:∀b,b<h.next→h1.get b=h.get b:=fun b hb=>a2.xw b hb (fun c hc=>absurd rfl hc);refine⟨s,fun b=>F b∨(h.next≤b∧(F1 b∨∃c,g1.get c≠none∧s1 c=b)),h1,w,a1,?_,?_⟩
  ·refine⟨⟨hr.top,a2.hr.qz,?_,?_,hr.inj,?_⟩,Nat.le_refl _,a2.hnext,fun _ _=>rfl,fun b hb=>.inl hb,?_,fun b hb _=>oV b hb,fun c hc hn=>.inr ⟨c,hn,rfl⟩,fun c _ hn=>hn,?_⟩
   ·rintro b (hb|⟨_,hb|⟨c,hc,rfl⟩⟩)
    ·exact Nat.lt_of_lt_of_le (hr.nG b hb) a2.hnext
    ·exact a2.hr.nG b hb
    ·exact a2.hr.slt hc
   ·intro b x hx;obtain⟨y,hy,zh⟩:=hr.bH b x hx;have hlt:=hr.slt (b:=b) (by rw[hx];simp);exact⟨y,by rw[oV _ hlt];exact hy,zh.mono (fun _ _=>rfl) (Nat.le_refl _) (fun _ hb=>.inl hb) (fun c hc=>oV c (hr.nG c hc))⟩
   ·rintro b hb (hf|⟨hle,_⟩)
    ·exact hr.own b hb hf
    ·have:=hr.slt hb;omega
   ·rintro b (hb|⟨hle,_⟩) hlt
    ·exact .inl hb
    ·omega
   ·intro b st p e ps a c hb;exact a2.loops b st p e ps a c hb
  ·refine(CE.clean (s':=s) (n':=g.next) hcl').mono (fun _ _=>rfl) (Nat.le_refl _) ?_ (fun _ _=>rfl);intro b hb;by_cases hlt:b<h.next
   ·exact .inl (hnew b hb hlt)
   ·exact .inr ⟨by omega,hb⟩
 |@Ra B f args args1 g bs v g1 hfz _ ih=>
  intro s F h args' hr q;have o1:=zb hr bs;have q1:aX s (cg bs g).next (fun b=>F b∨∃c,c∈bs∧g.get c≠none∧s c=b) h args1 args':=by
   rw[bF];refine⟨by rw[←hfz.1];exact q.1,fun i x y hx hy=>?_⟩;have hl:=(List.getElem?_eq_some_iff.1 hx).1;have hz:=List.getElem?_eq_getElem (l:=args) (i:=i) (by rw[hfz.1];exact hl);exact p4 (hfz.2 i _ x hz hx) hr (fun _ hb=>.inl hb) (fun b hb hn=>.inr ⟨b,hb,hn,rfl⟩) (q.2 i _ y hz hy)
  obtain⟨s1,F1,h1,w,a1,a2,a3⟩:=ih s _ h args' o1.hr q1;rw[bF] at a2;exact⟨s1,F1,h1,w,a1,o1.trans hr a2,a3⟩
 |@Rc B f args g bs v v' g1 _ hfz ih=>
  intro s F h args' hr q;obtain⟨s1,F1,h1,w,a1,a2,a3⟩:=ih s F h args' hr q;have o1:=zb a2.hr bs;refine⟨s1,_,h1,w,a1,a2.trans hr (o1.weaken a2.next),?_⟩;rw[bF];exact p4 hfz a2.hr (fun _ hb=>.inl hb) (fun b hb hn=>.inr ⟨b,hb,hn,rfl⟩) a3
 |@closed B f args g v h1 hb hpa ZE=>
  intro s F h args' hr q;have ha:=q.iK hpa;subst ha;exact⟨s,F,h,v,.fresh hb (Bq hpa) (CX ZE),.refl hr (Nat.le_refl _),.dU ZE⟩
 |@view B f args args1 g v g1 hfz ju _ jn ih=>
  intro s F h args' hr q;have q1:aX s g.next (fun b=>b<h.next) h args1 args':=by
   refine⟨by rw[←hfz.1];exact q.1,fun i x y hx hy=>?_⟩;have hl:=(List.getElem?_eq_some_iff.1 hx).1;have hz:=List.getElem?_eq_getElem (l:=args) (i:=i) (by rw[hfz.1];exact hl);exact p4 (hfz.2 i _ x hz hx) hr (fun b hb=>hr.nG b hb) (fun b _ hn=>hr.slt hn) (q.2 i _ y hz hy)
  have q0:=aX.clean (s':=s) (n':=0) q1 ju;have vI:HR s (fun b=>b<h.next) ⟨0,.nil⟩ h:=by
   refine⟨fun b _=>rfl,hr.qz,fun b hb=>hb,fun b x hx=>?_,fun b c hb=>absurd rfl hb,fun b hb=>absurd rfl hb⟩;have:(none:Option bP)=some x:=hx;simp at this
  obtain⟨s1,F1,h1,w,a1,a2,a3⟩:=ih s (fun b=>b<h.next) h args' vI q0;have oV:∀b,b<h.next→h1.get b=h.get b:=fun b hb=>a2.xw b hb (fun c hc=>absurd rfl hc);have hw:=a3.iK jn;subst hw;refine⟨s,F,h1,_,a1,?_,.dU jn⟩;refine⟨⟨hr.top,a2.hr.qz,fun b hb=>Nat.lt_of_lt_of_le (hr.nG b hb) a2.hnext,?_,hr.inj,hr.own⟩,Nat.le_refl _,a2.hnext,fun _ _=>rfl,fun b hb=>hb,fun b hb _=>.inl hb,fun b hb _=>oV b hb,fun c hc hn=>.inr ⟨c,hn,rfl⟩,fun c _ hn=>hn,?_⟩
  ·intro b x hx;obtain⟨y,hy,zh⟩:=hr.bH b x hx;have hlt:=hr.slt (b:=b) (by rw[hx];simp);exact⟨y,by rw[oV _ hlt];exact hy,zh.mono (fun _ _=>rfl) (Nat.le_refl _) (fun _ hb=>hb) (fun c hc=>oV c (hr.nG c hc))⟩
  ·intro b st p e ps a c hb;exact a2.loops b st p e ps a c hb
 |@Lx B f args args1 g g1 b0 o len cap op vs wr es hfz ju _ Lg jn ih=>
  intro s F h args' hr q;have q1:aX s g.next (fun b=>b<h.next) h args1 args':=by
   refine⟨by rw[←hfz.1];exact q.1,fun i x y hx hy=>?_⟩;have hl:=(List.getElem?_eq_some_iff.1 hx).1;have hz:=List.getElem?_eq_getElem (l:=args) (i:=i) (by rw[hfz.1];exact hl);exact p4 (hfz.2 i _ x hz hx) hr (fun b hb=>hr.nG b hb) (fun b _ hn=>hr.slt hn) (q.2 i _ y hz hy)
  have q0:=aX.clean (s':=s) (n':=0) q1 ju;have vI:HR s (fun b=>b<h.next) ⟨0,.nil⟩ h:=by
   refine⟨fun b _=>rfl,hr.qz,fun b hb=>hb,fun b x hx=>?_,fun b c hb=>absurd rfl hb,fun b hb=>absurd rfl hb⟩;have:(none:Option bP)=some x:=hx;simp at this
  obtain⟨s1,F1,h1,w,a1,a2,a3⟩:=ih s (fun b=>b<h.next) h args' vI q0;have oV:∀b,b<h.next→h1.get b=h.get b:=fun b hb=>a2.xw b hb (fun c hc=>absurd rfl hc);have hfr:h.next≤s1 b0:=by
   rcases a2.fresh b0 (Nat.zero_le _) (by rw[Lg];simp) with h2|⟨c0,h2,_⟩
   ·exact h2
   ·exact absurd rfl h2
  obtain⟨y0,hy0,Xz⟩:=a2.hr.bH b0 _ Lg;have hs:∀b,b<g.next→(if b=g.next then s1 b0 else s b)=s b:=fun b hb=>if_neg (by omega);refine⟨fun b=>if b=g.next then s1 b0 else s b,F,h1,_,a1,?_,?_⟩
  ·refine⟨⟨?_,a2.hr.qz,fun b hb=>Nat.lt_of_lt_of_le (hr.nG b hb) a2.hnext,?_,?_,?_⟩,by simp,a2.hnext,hs,fun b hb=>hb,fun b hb _=>.inl hb,fun b hb _=>oV b hb,?_,?_,?_⟩
   ·intro b hb;simp only[Heap.HK] at hb;rw[Heap.bT,if_neg (by omega)];exact hr.top b (by omega)
   ·intro b x hx;rw[Heap.bT] at hx;by_cases tX:b=g.next
    ·rw[if_pos tX] at hx;cases hx
     simp only[if_pos tX];refine⟨y0,hy0,?_⟩;cases Xz with
     |cells r hw=>
      refine .cells ⟨r.1,fun i x y hx hy=>?_⟩ hw;have Se:=iN jn hx;have:=(r.2 i x y hx hy).iK Se;subst this;exact .dU Se
    ·rw[if_neg tX] at hx;simp only[if_neg tX];obtain⟨y,hy,zh⟩:=hr.bH b x hx;have hlt:=hr.slt (b:=b) (by rw[hx];simp);exact⟨y,by rw[oV _ hlt];exact hy,zh.mono hs (by simp) (fun _ hb=>hb) (fun c hc=>oV c (hr.nG c hc))⟩
   ·intro b c hb hc he;rw[Heap.bT] at hb hc;by_cases h2:b=g.next<;>by_cases h3:c=g.next
    ·rw[h2,h3]
    ·rw[if_neg h3] at hc;simp only[if_pos h2,if_neg h3] at he;have:=hr.slt hc;omega
    ·rw[if_neg h2] at hb;simp only[if_pos h3,if_neg h2] at he;have:=hr.slt hb;omega
    ·rw[if_neg h2] at hb;rw[if_neg h3] at hc;simp only[if_neg h2,if_neg h3] at he;exact hr.inj b c hb hc he
   ·intro b hb hF;rw[Heap.bT] at hb;by_cases h2:b=g.next
    ·simp only[if_pos h2] at hF;have:=hr.nG _ hF;omega
    ·rw[if_neg h2] at hb;simp only[if_neg h2] at hF;exact hr.own b hb hF
   ·intro c hc hn;rw[Heap.bT] at hn;by_cases h2:c=g.next
    ·simp only[if_pos h2];exact .inl hfr
    ·rw[if_neg h2] at hn;exact absurd (hr.top c hc) hn
   ·intro c hc hn;rw[Heap.bT,if_neg (by omega)] at hn;exact hn
   ·intro b st p e ps a c hb;exact a2.loops b st p e ps a c hb
  ·cases a3 with
   |sl hlt=>
    have:=Rel.sl (s:=fun b=>if b=g.next then s1 b0 else s b) (n:=(g.new (.cells vs wr es)).next) (F:=F) (h:=h1) (b:=g.next) (o:=o) (len:=len) (cap:=cap) (op:=op) (by simp);simpa using this
end
end Ads
end Go.Proofs.YtmnolnoeibhjgaaGreat
