/-
  What Vs does is done in Ads.
-/
import Derived.Test.YtnlcabhfkpafmaaGreatVsEff
set_option linter.unusedVariables false
set_option linter.unusedSimpArgs false
namespace Go.Proofs.YtnlcabhfkpafmaaGreat
namespace Ads
section
variable {s:Nat→Nat} {n:Nat} {F:Nat→Prop} {g h:Heap}
theorem qX{bs:List Nat}:∀{g:Heap} (b:Nat),(fh bs g).get b=if b∈bs then none else g.get b:=by
 induction bs with
 |nil=>intro g b;simp[fh]
 |cons a bs ih=>
  intro g b;simp only[fh,ih,Heap.cL,List.mem_cons];by_cases h1:b∈bs<;>by_cases h2:b=a<;>simp[h1,h2]
theorem fE{bs:List Nat}:∀{g:Heap},(fh bs g).next=g.next:=by
 induction bs with
 |nil=>intro g;rfl
 |cons a bs ih=>intro g;simp only[fh,ih];rfl
theorem p6{B:Nat→Prop}{F':Nat→Prop}{v v':AV}(f:ny B g v v')(r:HR s F g h)(hF:∀b,F b→F' b)(hB:∀b,B b→g.get b≠none→F' (s b)):
  ∀{w:AV},Rel s g.next F h v w→Rel s g.next F' h v' w:=by
 induction f with
 |clean _=>intro w q;exact q.mono (fun _ _=>rfl) (Nat.le_refl _) hF (fun _ _=>rfl)
 |agg h1 _ ih=>
  intro w q;cases q with
  |agg g1 g2=>
   refine .agg (h1▸g1) fun i x y hx hy=>?_;rename_i cs cs' ws _;have hl:=(List.getElem?_eq_some_iff.1 hx).1;have hz:=List.getElem?_eq_getElem (l:=cs) (i:=i) (by rw[h1];exact hl);exact ih i _ x hz hx (g2 i _ y hz hy)
 |cq h1 _ ih=>
  intro w q;cases q with
  |cq g1 g2=>
   refine .cq (h1▸g1) fun i x y hx hy=>?_;rename_i cs cs' ws _;have hl:=(List.getElem?_eq_some_iff.1 hx).1;have hz:=List.getElem?_eq_getElem (l:=cs) (i:=i) (by rw[h1];exact hl);exact ih i _ x hz hx (g2 i _ y hz hy)
 |iface _ ih=>
  intro w q;cases q with
  |iface g1=>exact .iface (ih g1)
 |aL=>intro w q;cases q;exact .iL
 |func h1 _ h2 _ ih1 ih2=>
  intro w q;cases q with
  |func g1 g2 g3 g4=>
   rename_i fn a a' c c' _ _ wa wc;refine .func (h1▸g1) (fun i x y hx hy=>?_) (h2▸g3) fun i x y hx hy=>?_
   ·have hl:=(List.getElem?_eq_some_iff.1 hx).1;have hz:=List.getElem?_eq_getElem (l:=a) (i:=i) (by rw[h1];exact hl);exact ih1 i _ x hz hx (g2 i _ y hz hy)
   ·have hl:=(List.getElem?_eq_some_iff.1 hx).1;have hz:=List.getElem?_eq_getElem (l:=c) (i:=i) (by rw[h2];exact hl);exact ih2 i _ x hz hx (g4 i _ y hz hy)
 |ptr hb hg h1 h2 _ ih=>
  intro w q;cases q with
  |ptr hlt=>
   rename_i b o base o' cs vs wr es _;obtain⟨vs',wr',hy,hr,_⟩:=r.cells hg;refine .fp (hB _ hb (by rw[hg];simp)) hy h1 (by rw[←hr.1];exact h2) fun j c y hc hy'=>?_;have hl:=(List.getElem?_eq_some_iff.1 hy').1;have hz:=List.getElem?_eq_getElem (l:=vs) (i:=base+j) (by rw[hr.1];exact hl);exact ih j c _ hc hz (hr.2 _ _ y hz hy')
 |sl hb hg h1 h2 h3 h4 Ef h5 h6 _ ih=>
  intro w q;cases q with
  |sl hlt=>
   obtain⟨vs',wr',hy,hr,_⟩:=r.cells hg;refine .fz (hB _ hb (by rw[hg];simp)) hy h1 h2 (by rw[←hr.1];exact h3) h4 Ef h5 h6 fun i x j c y hx hc hy'=>?_;rename_i vs _ _ _ _;have hl:=(List.getElem?_eq_some_iff.1 hy').1;have hz:=List.getElem?_eq_getElem (by rw[hr.1];exact hl);exact ih i x j c _ hx hc hz (hr.2 _ _ y hz hy')
theorem zw(r:HR s F g h)(bs:List Nat):Out g.next s F g h s (fun b=>F b∨∃c,c∈bs∧g.get c≠none∧s c=b) (fh bs g) h:=by
 have sZ:∀c,(fh bs g).get c≠none→g.get c≠none∧c∉bs:=by
  intro c hc;rw[qX] at hc;split at hc
  ·exact absurd rfl hc
  ·exact⟨hc,by assumption⟩
 refine⟨⟨?_,r.qu,?_,?_,?_,?_⟩,by rw[fE];exact Nat.le_refl _,Nat.le_refl _,fun _ _=>rfl,fun b hb=>.inl hb,?_,fun _ _ _=>rfl,?_,?_,?_⟩
 ·intro b hb;rw[fE] at hb;rw[qX,r.top b hb];simp
 ·rintro b (hb|⟨c,_,hc,rfl⟩)
  ·exact r.nM b hb
  ·exact r.slt hc
 ·intro b x hx;have:=sZ b (by rw[hx];simp);rw[qX,if_neg this.2] at hx;obtain⟨y,hy,hr⟩:=r.bK b x hx;refine⟨y,hy,?_⟩;rw[fE];exact hr.mono (fun _ _=>rfl) (Nat.le_refl _) (fun _ hb=>.inl hb) (fun _ _=>rfl)
 ·intro b c hb hc he;exact r.inj b c (sZ b hb).1 (sZ c hc).1 he
 ·intro b hb hf;obtain⟨h1,h2⟩:=sZ b hb;rcases hf with hf|⟨c,hc,Cj,he⟩
  ·exact r.own b h1 hf
  ·exact h2 (r.inj b c h1 Cj he.symm▸hc)
 ·rintro b (hb|⟨c,hc,Cj,rfl⟩) _
  ·exact .inl hb
  ·exact .inr ⟨c,Cj,rfl⟩
 ·intro c hc hn;exact absurd (r.top c hc) (sZ c hn).1
 ·intro c hc hn;exact(sZ c hn).1
 ·intro b st p e ps a c hb;exact⟨st,p,hb⟩
theorem Gs{e e':Env}(r:HR s F g h)(he:ER s g.next F h e e'){rv:ta}{v:AV}(hv:n8 e g rv=some v):∃v',wN e' h rv=some v'∧Rel s g.next F h v v':=by
 cases rv with
 |tmp t=>exact⟨_,rfl,he t v hv⟩
 |cell a k agg=>
  simp only[wN,n8] at hv⊢;split at hv
  ·rename_i b o hb;have h1:=he a _ hb;generalize e'.get a=w at h1;cases h1 with
   |ptr hlt=>
    cases agg with
    |true=>
     simp only[cond_true,Option.map_eq_some_iff] at hv⊢;obtain⟨cs,hcs,rfl⟩:=hv;obtain⟨cs',h2,h3⟩:=lu r hcs;exact⟨.agg cs',⟨cs',h2,rfl⟩,.agg h3.1 h3.2⟩
    |false=>
     simp only[cond_false] at hv⊢;exact yJ r hv
  ·simp at hv
theorem rG{e e':Env}(r:HR s F g h)(he:ER s g.next F h e e'):∀{rs:List ta} {vs:List AV},dH e g rs=some vs→∃vs',jy e' h rs=some vs'∧bf s g.next F h vs vs'
 |[],vs,hv=>by simp only[dH,Option.some.injEq] at hv;subst hv;exact⟨[],rfl,.nil⟩
 |rv::rs,vs,hv=>by
  simp only[dH] at hv;split at hv
  ·rename_i v ws h1 h2;cases hv
   obtain⟨v',a1,a2⟩:=Gs r he h1;obtain⟨SZ,b1,b2⟩:=rG r he h2;simp only[jy,a1,b1];exact⟨_,rfl,.cons a2 b2⟩
  ·simp at hv
theorem wP{vs vs':List AV}(q:bf s n F h vs vs'):Rel s n F h (dR vs) (dR vs'):=by
 rcases vs with _|⟨v,_|⟨u,vs⟩⟩
 ·rw[q.mB];exact .undef
 ·obtain⟨y,rfl,hy⟩:=q.one;exact hy
 ·obtain⟨v',l,rfl,h1,h2⟩:=q.cons_inv;obtain⟨u',l',rfl,h3,h4⟩:=h2.cons_inv;have:=h1|>fun h1=>bf.cons h1 (bf.cons h3 h4)
  exact .cq this.1 this.2
theorem lU{e e':Env}(he:ER s n F h e e'){i:bE}{b:Bool}(hw:cT i e=some b):cE i e'=b:=by
 unfold cT at hw;unfold cE;split at hw
 ·rename_i hg;rw[hg];simpa using hw
 ·rename_i d want hg;rw[hg];show(match e'.get d with|.bool b=>b==want|_=>false)=b;have:=he d;generalize Tr.get e d=x at this hw;generalize e'.get d=y at this;cases x with
  |none=>simp at hw
  |some x=>
   have:=this x rfl;cases this<;>first|(simp only[Option.some.injEq] at hw;exact hw)|(simp at hw)
end
section
variable (fs:Nat→Option an) (ms:Nat→String→Option Nat)
inductive TR:(Nat→Nat)→(Nat→Prop)→Heap→Heap→List bE→Env→Env→List aN→List aN→(Nat→Nat)→(Nat→Prop)→Heap→Heap→Prop
 |nil {s F g h e e'}:HR s F g h→TR s F g h [] e e' [] [] s F g h
 |cons {s F g h s1 F1 g1 h1 s2 F2 g2 h2 e e'} {i:bE} {l:List bE} {m m':aN} {tr kj}:HR s F g h→ER s g.next F h e e'→Out g.next s F g h s1 F1 g1 h1→m.h=g→m'.h=h→m'.on=m.on→
   m.vals=i.args.map e.ev→m'.vals=i.args.map e'.ev→
   (m.on=true→dJ e i.args=true∧bf s g.next F h m.vals m'.vals∧Rel s1 g1.next F1 h1 m.v m'.v∧(∀o,i.op=.p o→pV o m.vals=some m.v∧pI o m'.vals=some m'.v)∧∀o,i.op=.r o→rI o m'.vals h=some m'.v∧rV o m.vals g=some m.v)→
   (m.on=false→m.v=.undef∧m'.v=.undef)→
   TR s1 F1 g1 h1 l (e.put i.dst m.v) (e'.put i.dst m'.v) tr kj s2 F2 g2 h2→TR s F g h (i::l) e e' (m::tr) (m'::kj) s2 F2 g2 h2
def Sim(B:Nat):Task→SE→Prop
 |.code rd c e g,.code x e1 g1=>ff c=true→B≤g.next→∀s F h e',HR s F g h→ER s g.next F h e e'→∃s1 F1 h1 lJ,BS fs ms (.code rd c e' h) (.code x lJ h1)∧Out B s F g h s1 F1 g1 h1∧ER s1 g1.next F1 h1 e1 lJ
 |.ops rd l e g,.ops tr e1 g1=>jN l=true→∀s F h e',HR s F g h→ER s g.next F h e e'→∃s1 F1 h1 lJ kj,BS fs ms (.ops rd l e' h) (.ops kj lJ h1)∧Out g.next s F g h s1 F1 g1 h1∧ER s1 g1.next F1 h1 e1 lJ∧TR s F g h l e e' tr kj s1 F1 g1 h1
 |.op rd o vals g,.val v g1=>Dj o=true→∀s F h vals',HR s F g h→bf s g.next F h vals vals'→∃s1 F1 h1 v',BS fs ms (.op rd o vals' h) (.val v' h1)∧Out g.next s F g h s1 F1 g1 h1∧Rel s1 g1.next F1 h1 v v'
 |.fD fv args g,.val v g1=>∀s F h FJ args',HR s F g h→Rel s g.next F h fv FJ→bf s g.next F h args args'→∃s1 F1 h1 v',BS fs ms (.fD FJ args' h) (.val v' h1)∧Out g.next s F g h s1 F1 g1 h1∧Rel s1 g1.next F1 h1 v v'
 |.call f args g,.val v g1=>∀s F h args',HR s F g h→bf s g.next F h args args'→∃s1 F1 h1 v',BS fs ms (.call f args' h) (.val v' h1)∧Out g.next s F g h s1 F1 g1 h1∧Rel s1 g1.next F1 h1 v v'
 |.op rd o vals g,.mC v g1=>Dj o=true→∀s F h vals',HR s F g h→bf s g.next F h vals vals'→∃s1 F1 h1,BS fs ms (.op rd o vals' h) (.mC v h1)∧Out g.next s F g h s1 F1 g1 h1
 |.fD fv args g,.mC v g1=>∀s F h FJ args',HR s F g h→Rel s g.next F h fv FJ→bf s g.next F h args args'→∃s1 F1 h1,BS fs ms (.fD FJ args' h) (.mC v h1)∧Out g.next s F g h s1 F1 g1 h1
 |.call f args g,.mC v g1=>∀s F h args',HR s F g h→bf s g.next F h args args'→∃s1 F1 h1,BS fs ms (.call f args' h) (.mC v h1)∧Out g.next s F g h s1 F1 g1 h1
 |_,_=>False
end
section
variable {fs:Nat→Option an} {ms:Nat→String→Option Nat} {s:Nat→Nat} {F:Nat→Prop} {g h:Heap}
theorem sN{p:Nat→Nat}{n n':Nat}{v v':AV}(f:uH p n' v v'):∀{w:AV},Rel s n F h v' w→Rel (fun b=>s (p b)) n' F h v w:=by
 induction f with
 |cl hc=>intro w q;exact q.clean hc
 |ptr hb=>intro w q;cases q;exact .ptr (s:=fun b=>s (p b)) hb
 |sl hb=>intro w q;cases q;exact .sl (s:=fun b=>s (p b)) hb
 |map hb=>intro w q;cases q;exact .map (s:=fun b=>s (p b)) hb
 |yield hb=>intro w q;cases q;exact .yield (s:=fun b=>s (p b)) hb
 |iface _ ih=>intro w q;cases q with|iface q=>exact .iface (ih q)
 |agg h1 _ ih=>
  intro w q;cases q with
  |agg g1 g2=>
   rename_i cs cs' _ ws;refine .agg (h1.trans g1) fun i x y hx hy=>?_;have hl:=(List.getElem?_eq_some_iff.1 hx).1;have hz:=List.getElem?_eq_getElem (l:=cs') (i:=i) (by rw[←h1];exact hl);exact ih i x _ hx hz (g2 i _ y hz hy)
 |cq h1 _ ih=>
  intro w q;cases q with
  |cq g1 g2=>
   rename_i cs cs' _ ws;refine .cq (h1.trans g1) fun i x y hx hy=>?_;have hl:=(List.getElem?_eq_some_iff.1 hx).1;have hz:=List.getElem?_eq_getElem (l:=cs') (i:=i) (by rw[←h1];exact hl);exact ih i x _ hx hz (g2 i _ y hz hy)
 |func h1 _ h2 _ ih1 ih2=>
  intro w q;cases q with
  |func g1 g2 g3 g4=>
   rename_i fn a a' c c' _ _ wa wc;refine .func (h1.trans g1) (fun i x y hx hy=>?_) (h2.trans g3) fun i x y hx hy=>?_
   ·have hl:=(List.getElem?_eq_some_iff.1 hx).1;have hz:=List.getElem?_eq_getElem (l:=a') (i:=i) (by rw[←h1];exact hl);exact ih1 i x _ hx hz (g2 i _ y hz hy)
   ·have hl:=(List.getElem?_eq_some_iff.1 hx).1;have hz:=List.getElem?_eq_getElem (l:=c') (i:=i) (by rw[←h2];exact hl);exact ih2 i x _ hx hz (g4 i _ y hz hy)
theorem JL{p:Nat→Nat}{n n':Nat}{x y z:dD}(f:xh p n' x y)(q:BR s n F h y z):BR (fun b=>s (p b)) n' F h x z:=by
 cases f with
 |cells h1 h2=>
  rename_i vs vs' wr es;cases q with
  |cells r hw=>
   refine .cells ⟨h1.trans r.1,fun i a b ha hb=>?_⟩ hw;have hl:=(List.getElem?_eq_some_iff.1 ha).1;have hz:=List.getElem?_eq_getElem (l:=vs') (i:=i) (by rw[←h1];exact hl);exact sN (h2 i a _ ha hz) (r.2 i _ b hz hb)
 |map h1 h2=>
  rename_i l l' _ _;cases q with
  |map r=>
   refine .map ⟨h1.trans r.1,fun i a b ha hb=>?_⟩;have hl:=(List.getElem?_eq_some_iff.1 ha).1;have hz:=List.getElem?_eq_getElem (l:=l') (i:=i) (by rw[←h1];exact hl);exact⟨sN (h2 i a _ ha hz).1 (r.2 i _ b hz hb).1,sN (h2 i a _ ha hz).2 (r.2 i _ b hz hb).2⟩
 |loop h1=>
  cases q with
  |loop r c1 c2=>
   refine .loop (fun i v hv=>?_) c1 c2;obtain⟨u,hu,hr⟩:=h1 i v hv;exact sN hr (r i u hu)
theorem Qv{B:Nat}{p:Nat→Nat}{e1 e:Env}{g1:Heap}{e':Env}(r:HR s F g1 h)(he:ER s g1.next F h e1 e')(c:GC B p e1 g1 e g):
  Out B s F g1 h (fun b=>s (p b)) F g h∧ER (fun b=>s (p b)) g.next F h e e':=by
 have hne:∀b,g.get b≠none→g1.get (p b)≠none:=by
  intro b hb;cases hx:g.get b with
  |none=>exact absurd hx hb
  |some x=>
   obtain⟨_,y,hy,_⟩:=c.P9 b x hx;rw[hy];simp
 refine⟨⟨⟨?_,r.qu,r.nM,?_,?_,?_⟩,c.next,Nat.le_refl _,fun b hb=>by simp only[c.fix b hb],fun _=>id,fun b hb _=>.inl hb,fun _ _ _=>rfl,?_,?_,fun b st p e ps a c hb=>⟨st,p,hb⟩⟩,?_⟩
 ·intro b hb;cases hx:g.get b with
  |none=>rfl
  |some x=>have:=(c.P9 b x hx).1;omega
 ·intro b x hx;obtain⟨_,y,hy,hb⟩:=c.P9 b x hx;obtain⟨z,hz,hr⟩:=r.bK _ y hy;exact⟨z,hz,JL hb hr⟩
 ·intro b d hb hd heq;exact c.inj b d hb hd (r.inj _ _ (hne b hb) (hne d hd) heq)
 ·intro b hb;exact r.own _ (hne b hb)
 ·intro d hd hn;exact .inr ⟨p d,hne d hn,rfl⟩
 ·intro d hd hn;have:=hne d hn;rw[c.fix d hd] at this;exact this
 ·intro i v hv;obtain⟨u,hu,hr⟩:=c.slots i v hv;exact sN hr (he i u hu)
theorem mN{u:Nat→Heap}:∀{l:List bE} {win:List (List Nat)} {tr:List aN},win.all (·.isEmpty)=true→ew u l win tr
 |[],_,_,_=>by simp[ew]
 |_::_,[],_,_=>by simp[ew]
 |_::_,_::_,[],_=>by simp[ew]
 |x::l,cs::win,m::tr,h=>by
  simp only[List.all_cons,Bool.and_eq_true] at h;simp only[ew];refine⟨?_,mN h.2⟩;split
  ·intro _ c hc;rw[List.isEmpty_iff.1 h.1] at hc;simp at hc
  ·trivial
theorem m9{n:Nat}{st:Nat}{fZ:Option AX}{e:Env}{ps:List Nat}{a b:AC}{y:dD}(r:BR s n F h (.loop st fZ e ps a b) y):
  ∃e',y=.loop st fZ e' ps a b∧ER s n F h e e'∧ff a=true∧ff b=true:=by
 cases r with
 |loop h1 h2 h3=>exact⟨_,rfl,h1,h2,h3⟩
theorem HS(r:HR s F g h):HR s F ⟨0,.nil⟩ h:=by
 refine⟨fun b _=>rfl,r.qu,r.nM,fun b x hx=>?_,fun b c hb=>absurd rfl hb,fun b hb=>absurd rfl hb⟩;have:(none:Option dD)=some x:=hx;simp at this
theorem Dp{D:Dom}:∀{v:AV},v.pl=true→v.aY D:=by
 intro v;refine AV.rec (motive_1:=fun v=>v.pl=true→v.aY D) (motive_2:=fun l=>mc l=true→bn D l) ?_ ?_ ?_ ?_ ?_ ?_ ?_ ?_ ?_ ?_ ?_ ?_ ?_ ?_ ?_ ?_ ?_ ?_ ?_ ?_ ?_ ?_ v
 case refine_11=>
  intro fn first aM ih1 ih2 hp
  simp only[AV.pl,Bool.and_eq_true] at hp;simp only[AV.aY];refine⟨?_,ih1 hp.1.1,ih2 hp.1.2⟩;intro l e;subst e;simp at hp
 case refine_14=>intro t v ih hp;simp only[AV.aY];exact ih (by simpa[AV.pl] using hp)
 case refine_16=>intro cs ih hp;simp only[AV.aY];exact ih (by simpa[AV.pl] using hp)
 case refine_17=>intro cs ih hp;simp only[AV.aY];exact ih (by simpa[AV.pl] using hp)
 case refine_20=>intro b o k hp;simp[AV.pl] at hp
 case refine_21=>intro _;trivial
 case refine_22=>intro x l ih1 ih2 hp;simp only[mc,Bool.and_eq_true] at hp;exact⟨ih1 hp.1,ih2 hp.2⟩
 all_goals (intros;simp_all[AV.pl,AV.aY])
theorem BQ{D:Dom}:∀{l:List AV},mc l=true→bn D l
 |[],_=>trivial
 |x::l,hp=>by simp only[mc,Bool.and_eq_true] at hp;exact⟨Dp hp.1,BQ hp.2⟩
section
variable {s s1:Nat→Nat} {F F1:Nat→Prop} {g h g1 h1:Heap} {s0:Nat→Nat} {F0:Nat→Prop} {g0 h0:Heap} {n0:Nat}
def WI(P:Nat→Bool)(s:Nat→Nat)(n:Nat)(F:Nat→Prop)(h:Heap)(e e':Env):Prop:=∀i v,P i=true→Tr.get e i=some v→Rel s n F h v (e'.get i)
theorem WI.CJ{P:Nat→Bool}{e e':Env}(r:WI P s0 n0 F0 h0 e e'):∀{l:List bH},lN P l=true→kI l=true→dJ e l=true→bf s0 n0 F0 h0 (l.map e.ev) (l.map e'.ev)
 |[],_,_,_=>.nil
 |.c v::l,hg,hc,hj=>by
  simp only[kI,Bool.and_eq_true] at hc;exact .cons (.dX hc.1) (r.CJ hg hc.2 hj)
 |.t i::l,hg,hc,hj=>by
  simp only[kI,Bool.and_eq_true] at hc;simp only[dJ,Bool.and_eq_true] at hj;simp only[lN,Bool.and_eq_true] at hg;obtain⟨v,hv⟩:=Option.isSome_iff_exists.1 hj.1;have:=r i v hg.1 hv;rw[←CP hv] at this;exact .cons this (r.CJ hg.2 hc.2 hj.2)
theorem Jw{o:DL}{vals:List AV}{g:Heap}{v:AV}(h:rV o vals g=some v):o≠.entry:=by rintro rfl;simp[rV] at h
theorem Dr{o:DL}{b k:Nat}{h h':Heap}{v:AV}(hne:o≠.entry)(hg:h'.get b=h.get b)(hv:rI o [.ptr b k] h=some v):rI o [.ptr b k] h'=some v:=by
 cases o with
 |ck=>simp only[rI] at hv⊢;unfold Heap.ck Heap.row at hv⊢;rw[hg];exact hv
 |aZ n=>simp only[rI] at hv⊢;unfold Heap.aZ Heap.row at hv⊢;rw[hg];exact hv
 |entry=>exact absurd rfl hne
 |_=>simp[rI] at hv
theorem Nu{l:List AV}(h:Rs l=true):∃cs o,l=[.fp cs o]:=by
 unfold Rs at h;split at h
 ·exact⟨_,_,rfl⟩
 ·simp at h
theorem UL{o:DL}{cs:List AV}{k:Nat}{h:Heap}{v:AV}(hv:rV o [.fp cs k] h=some v)(h':Heap):rV o [.fp cs k] h'=some v:=by
 cases o with
 |ck=>exact hv
 |aZ n=>exact hv
 |lookup ok z=>simp[rV,rI] at hv
 |toStr=>simp[rV,rI,l1] at hv
 |I6=>simp[rV,rI] at hv
 |entry=>simp[rV] at hv
theorem Pc{s s':Nat→Nat}{n n':Nat}{F F':Nat→Prop}{h h':Heap}{v x y:AV}(r:Rel s n F h v x)(r':Rel s' n' F' h' v y)(ha:∀b,b<n→b<n'→s' b=s b)(hd:v.dt=true):y=x:=by
 cases v with
 |ptr b o=>cases r with|ptr h1=>cases r' with|ptr h2=>rw[ha _ h1 h2]
 |sl b o l c op=>cases r with|sl h1=>cases r' with|sl h2=>rw[ha _ h1 h2]
 |map b=>cases r with|map h1=>cases r' with|map h2=>rw[ha _ h1 h2]
 |yield b=>cases r with|yield h1=>cases r' with|yield h2=>rw[ha _ h1 h2]
 |rest b o k=>cases r with|rest h1=>cases r' with|rest h2=>rw[ha _ h1 h2]
 |_=>rw[r.iN hd,r'.iN hd]
theorem GA{s s':Nat→Nat}{n n':Nat}{F F':Nat→Prop}{h h':Heap}{v x:AV}(r:Rel s n F h v x)(ha:∀b,b<n→b<n'→s b=s' b)(hd:Dz n' v=true):Rel s' n' F' h' v x:=by
 cases v with
 |ptr b o=>
  cases r with
  |ptr h1=>
   have h2:b<n':=Nat.le_of_ble_eq_true hd;rw[ha _ h1 h2];exact .ptr h2
 |sl b o l c op=>
  cases r with
  |sl h1=>
   have h2:b<n':=Nat.le_of_ble_eq_true hd;rw[ha _ h1 h2];exact .sl h2
 |_=>
  rw[r.iN hd];exact .dX hd
theorem wX{s s':Nat→Nat}{n n':Nat}{F F':Nat→Prop}{h h':Heap}(ha:∀b,b<n→b<n'→s b=s' b):∀{l m:List AV},bf s n F h l m→rK n' l=true→bf s' n' F' h' l m
 |[],m,r,_=>by
  have:m=[]:=List.length_eq_zero_iff.1 r.1.symm;subst this;exact .nil
 |v::l,[],r,_=>by have:=r.1;simp at this
 |v::l,x::m,r,hd=>by
  simp only[rK,Bool.and_eq_true] at hd;exact .cons (GA (r.2 0 v x rfl rfl) ha hd.1) (wX ha ⟨by simpa using r.1,fun i a b ha hb=>r.2 (i+1) a b ha hb⟩ hd.2)
theorem TR.fin{l:List bE}{e e':Env}{tr kj:List aN}(t:TR s F g h l e e' tr kj s1 F1 g1 h1):g.next≤g1.next∧∀b,b<g.next→s1 b=s b:=by
 induction t with
 |nil _=>exact⟨Nat.le_refl _,fun _ _=>rfl⟩
 |cons _ _ ho _ _ _ _ _ _ _ _ ih=>exact⟨Nat.le_trans ho.next ih.1,fun b hb=>(ih.2 b (Nat.lt_of_lt_of_le hb ho.next)).trans (ho.bB b hb)⟩
theorem OZ{l:List bE}{e e':Env}{tr kj:List aN}(t:TR s F g h l e e' tr kj s1 F1 g1 h1)(GQ:HR s0 F0 g0 h0):(∀b,b<g0.next→s1 b=s0 b)→(∀b,F0 b→F b∧h.get b=h0.get b)→∀{n:Nat} {P:Nat→Bool},jN l=true→WI P s0 g0.next F0 h0 e e'→yZ g0 P l tr n→
  ∀(i:bE) (m':aN) (o:DL),l[n]?=some i→kj[n]?=some m'→i.op=.r o→rI o m'.vals h0=some m'.v:=by
 induction t with
 |nil _=>intro _ _ n P _ _ hw;simp[yZ] at hw
 |@cons s F g h s1 F1 g1 h1 s2 F2 g2 h2 e e' i l m m' tr kj hr he ho hmg Bn eM hv rT hok hoff tl ih=>
  intro hE hK n P hc hP hw;simp only[jN,Bool.and_eq_true] at hc;cases n with
  |zero=>
   intro j k o hj hk hop;simp only[List.getElem?_cons_zero,Option.some.injEq] at hj hk;subst hj hk;obtain⟨w1,w2,w5⟩:=hw;obtain⟨a1,a2,a3,a4⟩:=hok w2;have q:bf s0 g0.next F0 h0 m.vals m'.vals:=by
    rcases Bool.or_eq_true_iff.1 w1 with w1|w1
    ·rw[hv,rT];exact hP.CJ w1 hc.1.2 a1
    ·exact wX (fun b q8 kO=>((ho.bB b q8).symm.trans (tl.fin.2 b (Nat.lt_of_lt_of_le q8 ho.next)).symm).trans (hE b kO)) a2 w1
   rcases w5 with⟨w3,w4⟩|⟨cs,o1,m7⟩
   rotate_left
   ·rw[m7] at q;obtain⟨y,hy,C4⟩:=q.one;cases C4 with
    |fp hF _ _ _ _=>
     have h5:=(a4.2 o hop).1;rw[hy] at h5⊢;exact Dr (Jw (a4.2 o hop).2) (hK _ hF).2.symm h5
   have QY:Dj (.r o)=true:=hop▸hc.1.1;obtain⟨v',b1,b2⟩:=z6 GQ q QY (w4 o hop);rw[b1,Pc b2 a3 (fun b q8 kO=>(tl.fin.2 b kO).symm.trans (hE b q8)) w3]
  |succ n=>
   intro j k o hj hk hop;refine ih hE (fun b hb=>⟨ho.sub b (hK b hb).1,(ho.ke hr b (hK b hb).1).trans (hK b hb).2⟩) hc.2 ?_ hw j k o (by simpa using hj) (by simpa using hk) hop;intro u v hu cP;unfold A9 at hu;cases hd:i.dst with
   |none=>
    rw[hd] at hu cP;simp only[Env.put] at cP⊢;exact hP u v hu cP
   |some d=>
    rw[hd] at hu cP;simp only[Env.put] at cP⊢;rw[ue];rw[Tr.bT] at cP;by_cases Uq:u=d
    ·subst Uq;rw[if_pos rfl] at cP⊢;simp only[Nat.beq_refl,cond_true] at hu;cases cP
     cases IC:m.on with
     |false=>
      obtain⟨z1,z2⟩:=hoff IC;rw[z1,z2];exact .undef
     |true=>
      obtain⟨a1,a2,a3,a4⟩:=hok IC;cases C3:i.op with
      |p o2=>
       rw[C3] at hu;obtain⟨c1,c2⟩:=a4.1 o2 C3;have q:bf s0 g0.next F0 h0 m.vals m'.vals:=by rw[hv,rT];exact hP.CJ hu hc.1.2 a1
       have QY:Jp o2=true:=by have:=hc.1.1;rw[C3] at this;exact this
       obtain⟨v',b1,b2⟩:=Jn q QY c1;rw[c2] at b1;cases b1
       exact b2
      |r o2=>
       rw[C3] at hu;simp only[Bool.and_eq_true] at hu;obtain⟨d1,d2⟩:=a4.2 o2 C3;have q:bf s0 g0.next F0 h0 m.vals m'.vals:=by rw[hv,rT];exact hP.CJ hu.1 hc.1.2 a1
       obtain⟨cs,o1,m7⟩:=Nu hu.2;rw[m7] at q d2;have d3:=UL d2 g0;have QY:Dj (.r o2)=true:=by have:=hc.1.1;rw[C3] at this;exact this
       obtain⟨v',b1,b2⟩:=z6 GQ q QY d3;obtain⟨y,hy,C4⟩:=q.one;cases C4 with
       |fp hF _ _ _ _=>
        rw[hy] at d1 b1;rw[Dr (Jw d2) (hK _ hF).2.symm d1] at b1;cases b1
        exact b2
      |_=>rw[C3] at hu;simp at hu
    ·rw[if_neg Uq] at cP⊢;have hb:Nat.beq u d=false:=by
      cases hb:Nat.beq u d with
      |false=>rfl
      |true=>exact absurd (Nat.eq_of_beq_eq_true hb) Uq
     simp only[hb,cond_false] at hu;exact hP u v hu cP
theorem TR.from{l:List bE}{e e':Env}{tr kj:List aN}(t:TR s F g h l e e' tr kj s1 F1 g1 h1):dV tr g1=g∧dV kj h1=h∧HR s F g h:=by
 cases t with
 |nil hr=>exact⟨rfl,rfl,hr⟩
 |cons hr _ _ hg hh=>exact⟨hg,hh,hr⟩
theorem Gk{l:List bE}{e e':Env}{tr kj:List aN}(t:TR s F g h l e e' tr kj s1 F1 g1 h1):∀{q:Tr dD} {b:Nat} {x:dD},b<h.next→Tr.get q b=some x→Tr.get (iu l kj q) b=some x:=by
 induction t with
 |nil _=>intro q b x _ hq;exact hq
 |@cons s F g h s1 F1 g1 h1 s2 F2 g2 h2 e e' i l m m' tr kj hr he ho hmg Bn eM hv rT hok hoff _ ih=>
  intro q b x hb hq;have q8:b<h1.next:=Nat.lt_of_lt_of_le hb ho.hnext;unfold iu;split
  ·refine ih q8 ?_;rw[Tr.bT,Bn,if_neg (by omega)];exact hq
  ·exact ih q8 hq
theorem TR.drop{l:List bE}{e e':Env}{tr kj:List aN}(t:TR s F g h l e e' tr kj s1 F1 g1 h1):∀c,c<tr.length→
  ∃s0 F0 g0 h0 e0 CH,TR s0 F0 g0 h0 (l.drop c) e0 CH (tr.drop c) (kj.drop c) s1 F1 g1 h1∧ER s0 g0.next F0 h0 e0 CH:=by
 induction t with
 |nil _=>intro c hc;simp at hc
 |@cons s F g h s1 F1 g1 h1 s2 F2 g2 h2 e e' i l m m' tr kj hr he ho hmg Bn eM hv rT hok hoff t ih=>
  intro c hc;cases c with
  |zero=>exact⟨s,F,g,h,e,e',.cons hr he ho hmg Bn eM hv rT hok hoff t,he⟩
  |succ c=>exact ih c (by simpa using hc)
theorem TR.late{l:List bE}{e e':Env}{tr kj:List aN}(t:TR s F g h l e e' tr kj s1 F1 g1 h1):∀{vals vals':List AV},bf s g.next F h vals vals'→∀c,c<tr.length→
  ∃s0 F0 g0 h0 e0 CH,TR s0 F0 g0 h0 (l.drop c) e0 CH (tr.drop c) (kj.drop c) s1 F1 g1 h1∧bf s0 g0.next F0 h0 vals vals'∧∀b,F b→h0.get b=h.get b:=by
 induction t with
 |nil _=>intro _ _ _ c hc;simp at hc
 |@cons s F g h s1 F1 g1 h1 s2 F2 g2 h2 e e' i l m m' tr kj hr he ho hmg Bn eM hv rT hok hoff t ih=>
  intro vals vals' q c hc;cases c with
  |zero=>exact⟨s,F,g,h,e,e',.cons hr he ho hmg Bn eM hv rT hok hoff t,q,fun _ _=>rfl⟩
  |succ c=>
   obtain⟨s0,F0,g0,h0,e0,CH,t0,q0,k0⟩:=ih (q.mono ho.bB ho.next ho.sub (ho.ke hr)) c (by simpa using hc);exact⟨s0,F0,g0,h0,e0,CH,t0,q0,fun b hb=>(k0 b (ho.sub b hb)).trans (ho.ke hr b hb)⟩
theorem TR.at{l:List bE}{e e':Env}{tr kj:List aN}(t:TR s F g h l e e' tr kj s1 F1 g1 h1):∀(k:Nat) (m m':aN),tr[k]?=some m→kj[k]?=some m'→m.on=true→
  ∃s0 F0 g0 h0 e0 CH,TR s0 F0 g0 h0 (l.drop k) e0 CH (tr.drop k) (kj.drop k) s1 F1 g1 h1∧bf s0 g0.next F0 h0 m.vals m'.vals∧(∃sK nK FK hK,Rel sK nK FK hK m.v m'.v∧∀b,b<nK→s1 b=sK b)∧∀i o,l[k]?=some i→i.op=.r o→rI o m'.vals h0=some m'.v∧o≠.entry:=by
 induction t with
 |nil _=>intro k m m' hm;simp at hm
 |@cons s F g h s1 F1 g1 h1 s2 F2 g2 h2 e e' i l m m' tr kj hr he ho hmg Bn eM hv rT hok hoff t ih=>
  intro k n n' hn hn' hno;cases k with
  |zero=>
   simp only[List.getElem?_cons_zero,Option.some.injEq] at hn hn';subst hn hn';obtain⟨a1,a2,a3,a4⟩:=hok hno;exact⟨s,F,g,h,e,e',.cons hr he ho hmg Bn eM hv rT hok hoff t,a2,⟨_,_,_,_,a3,t.fin.2⟩,fun j o hj hop=>by simp only[List.getElem?_cons_zero,Option.some.injEq] at hj;subst hj;exact⟨(a4.2 o hop).1,Jw (a4.2 o hop).2⟩⟩
  |succ k=>
   obtain⟨s0,F0,g0,h0,e0,CH,t0,q0,p0,r0⟩:=ih k n n' (by simpa using hn) (by simpa using hn') hno;exact⟨s0,F0,g0,h0,e0,CH,t0,q0,p0,fun j o hj hop=>r0 j o (by simpa using hj) hop⟩
theorem wJ{u:Nat→Heap}:∀{l:List bE} {win:List (List Nat)} {tr:List aN},
  (∀(k:Nat) i cs m o,l[k]?=some i→win[k]?=some cs→tr[k]?=some m→i.op=.r o→m.on=true→∀c∈cs,rI o m.vals (u c)=some m.v)→ew u l win tr
 |[],_,_,_=>by simp[ew]
 |_::_,[],_,_=>by simp[ew]
 |_::_,_::_,[],_=>by simp[ew]
 |x::l,cs::win,m::tr,h=>by
  simp only[ew];refine⟨?_,wJ fun k i cs m o h1 h2 h3=>h (k+1) i cs m o (by simpa using h1) (by simpa using h2) (by simpa using h3)⟩;split
  ·rename_i o ho;intro eM c hc;exact h 0 x cs m o rfl rfl rfl ho eM c hc
  ·trivial
theorem yD:∀{l:List bE} (c:Nat),jN l=true→jN (l.drop c)=true
 |l,0,h=>h
 |[],c+1,h=>rfl
 |i::l,c+1,h=>by
  simp only[jN,Bool.and_eq_true] at h;exact yD c h.2
theorem TR.len{l:List bE}{e e':Env}{tr kj:List aN}(t:TR s F g h l e e' tr kj s1 F1 g1 h1):tr.length=kj.length∧∀(k:Nat) (m m':aN),tr[k]?=some m→kj[k]?=some m'→m'.on=m.on:=by
 induction t with
 |nil _=>exact⟨rfl,fun k m m' hm=>by simp at hm⟩
 |cons _ _ _ _ _ eM _ _ _ _ _ ih=>
  refine⟨by simp[ih.1],fun k m m' hm hm'=>?_⟩;cases k with
  |zero=>
   simp only[List.getElem?_cons_zero,Option.some.injEq] at hm hm';subst hm hm';exact eM
  |succ k=>exact ih.2 k m m' (by simpa using hm) (by simpa using hm')
theorem y6{l:List bE}{win:List (List Nat)}{e e':Env}{tr kj:List aN}(hc:jN l=true)(t:TR s F g h l e e' tr kj s1 F1 g1 h1)(hw:y5 l win tr g1):ni l win kj h1:=by
 refine wJ fun k i cs m' o uV h2 h3 hop eM c gy=>?_;have hk':k<kj.length:=(List.getElem?_eq_some_iff.1 h3).1;have hk:k<tr.length:=by rw[t.len.1];exact hk'
 have hm:tr[k]?=some tr[k]:=List.getElem?_eq_getElem hk;have IC:tr[k].on=true:=by rw[←t.len.2 k _ _ hm h3];exact eM
 have key:∀s0 F0 g0 h0 e0 CH,TR s0 F0 g0 h0 (l.drop c) e0 CH (tr.drop c) (kj.drop c) s1 F1 g1 h1→rI o m'.vals h0=some m'.v→rI o m'.vals (cJ l kj h1 c)=some m'.v:=by
  intro s0 F0 g0 h0 e0 CH t0 hr;obtain⟨f1,f2,f3⟩:=t0.from;refine EI (fun b x hb=>?_) hr;have hlt:b<h0.next:=by
   by_cases hl:b<h0.next
   ·exact hl
   ·rw[f3.qu b (by omega)] at hb;simp at hb
  show Tr.get (iu (l.drop c) (kj.drop c) (dV (kj.drop c) h1).m) b=some x;rw[f2];exact Gk t0 hlt hb
 rcases hw k i cs _ o uV h2 hm hop IC c gy with⟨w1,w2⟩|⟨w1,w2,w5⟩
 ·obtain⟨s0,F0,g0,h0,e0,CH,t0,er0⟩:=t.drop c (by omega);obtain⟨f1,f2,f3⟩:=t0.from;rw[f1] at w2;have hr:=OZ t0 f3 t0.fin.2 (fun b hb=>⟨hb,rfl⟩) (yD c hc) (fun i v _ hv=>er0 i v hv) w2 i m' o (by rw[List.getElem?_drop];rw[show c+(k-c)=k by omega];exact uV) (by rw[List.getElem?_drop];rw[show c+(k-c)=k by omega];exact h3) hop;exact key _ _ _ _ _ _ t0 hr
 ·obtain⟨s0,F0,g0,h0,e0,CH,t0,q,j7,hrd⟩:=t.at k _ _ hm h3 IC;obtain⟨s2,F2,g2,vQ,e2,sX,t2,q2,hkeep⟩:=t0.late q (c-k) (by rw[List.length_drop];omega);simp only[List.drop_drop,show k+(c-k)=c by omega] at t2;obtain⟨f1,f2,f3⟩:=t2.from;rcases w5 with⟨w3,w4⟩|⟨cs1,o1,m7⟩
  rotate_left
  ·obtain⟨h5,hne⟩:=hrd i o uV hop;rw[m7] at q;obtain⟨y,hy,C4⟩:=q.one;cases C4 with
   |fp hF _ _ _ _=>
    rw[hy] at h5;refine key _ _ _ _ _ _ t2 ?_;rw[hy];exact Dr hne (hkeep _ hF) h5
  rw[f1] at w4;have QY:Dj (.r o)=true:=by
   have:∀{l:List bE} {k:Nat} {i:bE},jN l=true→l[k]?=some i→Dj i.op=true:=by
    intro l;induction l with
    |nil=>intro k i _ h;simp at h
    |cons j l ih=>
     intro k i hc h;simp only[jN,Bool.and_eq_true] at hc;cases k with
     |zero=>simp only[List.getElem?_cons_zero,Option.some.injEq] at h;subst h;exact hc.1.1
     |succ k=>exact ih hc.2 (by simpa using h)
   exact hop▸this hc uV
  obtain⟨v',b1,b2⟩:=z6 f3 q2 QY w4;refine key _ _ _ _ _ _ t2 ?_;obtain⟨sK,nK,FK,hK,k1,k2⟩:=j7;rw[b1,Pc b2 k1 (fun b q8 kO=>(k2 b kO).symm.trans (t2.fin.2 b q8)) w3]
end
theorem sA{l m:List bE}:jN (l++m)=(jN l&&jN m):=by
 induction l with
 |nil=>simp[jN]
 |cons i l ih=>simp only[List.cons_append,jN,ih,Bool.and_assoc]
theorem VS.sim(QS:∀f af,fs f=some af→ff af.body=true){B:Nat}{t:Task}{r:SE}(hv:VS fs ms B t r):Sim fs ms B t r:=by
 induction hv with
 |skip=>intro _ hB s F h e' hr he;exact⟨s,F,h,e',.skip,.refl hr hB,he⟩
 |ops _ ih=>
  intro hc hB s F h e' hr he;obtain⟨s1,F1,h1,lJ,kj,a1,a2,a3,_⟩:=ih hc s F h e' hr he;exact⟨s1,F1,h1,lJ,.ops a1,a2.weaken hB,a3⟩
 |cn hw _ ih=>
  intro hc hB s F h e' hr he;obtain⟨s1,F1,h1,lJ,kj,a1,a2,a3,_⟩:=ih hc s F h e' hr he;exact⟨s1,F1,h1,lJ,.cn a1 (mN hw),a2.weaken hB,a3⟩
 |Pb hw _ ih=>
  intro hc hB s F h e' hr he;obtain⟨s1,F1,h1,lJ,kj,a1,a2,a3,a4⟩:=ih hc s F h e' hr he;exact⟨s1,F1,h1,lJ,.cn a1 (y6 hc a4 hw),a2.weaken hB,a3⟩
 |@Dy B rd a b e g e1 g1 r _ _ tJ oF=>
  cases r with
  |code x e2 g2=>
   intro hc hB s F h e' hr he;simp only[ff,Bool.and_eq_true] at hc;obtain⟨s1,F1,h1,lJ,a1,a2,a3⟩:=tJ hc.1 hB s F h e' hr he;obtain⟨s2,F2,h2,sX,b1,b2,b3⟩:=oF hc.2 a2.next s1 F1 h1 lJ a2.hr a3;exact⟨s2,F2,h2,sX,.Dy a1 b1,a2.trans hr b2,b3⟩
  |ops _ _ _=>exact oF.elim
  |val _ _=>exact oF.elim
  |mC _ _=>exact oF.elim
  |post _=>exact oF.elim
 |tU _ hx tJ=>
  intro hc hB s F h e' hr he;simp only[ff,Bool.and_eq_true] at hc;obtain⟨s1,F1,h1,lJ,a1,a2,a3⟩:=tJ hc.1 hB s F h e' hr he;exact⟨s1,F1,h1,lJ,.tU a1 hx,a2,a3⟩
 |@cond B rd c a b e g t r hao ht _ ih=>
  cases r with
  |code x e2 g2=>
   intro hc hB s F h e' hr he;simp only[ff,Bool.and_eq_true] at hc;have hce:=he.ev hc.1.1 hao;rw[ht] at hce;have gy:ff (bif t then a else b)=true:=by cases t;exact hc.2;exact hc.1.2
   obtain⟨s1,F1,h1,lJ,a1,a2,a3⟩:=ih gy hB s F h e' hr he;exact⟨s1,F1,h1,lJ,.cond hce.AM a1,a2,a3⟩
  |ops _ _ _=>exact ih.elim
  |val _ _=>exact ih.elim
  |mC _ _=>exact ih.elim
  |post _=>exact ih.elim
 |tg _ ih=>
  intro hc hB s F h e' hr he;obtain⟨s1,F1,h1,lJ,a1,a2,a3⟩:=ih hc hB s F h e' hr he;exact⟨s1,F1,h1,lJ,.tg a1,a2,a3⟩
 |kz _ hx ih=>
  intro hc hB s F h e' hr he;obtain⟨s1,F1,h1,lJ,a1,a2,a3⟩:=ih hc hB s F h e' hr he;exact⟨s1,F1,h1,lJ,.kz a1 hx,a2,a3⟩
 |@uv B rd c e g e1 g1 r _ _ tJ oF=>
  cases r with
  |code x e2 g2=>
   intro hc hB s F h e' hr he;obtain⟨s1,F1,h1,lJ,a1,a2,a3⟩:=tJ hc hB s F h e' hr he;obtain⟨s2,F2,h2,sX,b1,b2,b3⟩:=oF hc a2.next s1 F1 h1 lJ a2.hr a3;exact⟨s2,F2,h2,sX,.uv a1 b1,a2.trans hr b2,b3⟩
  |ops _ _ _=>exact oF.elim
  |val _ _=>exact oF.elim
  |mC _ _=>exact oF.elim
  |post _=>exact oF.elim
 |iB _ hx tJ=>
  intro hc hB s F h e' hr he;obtain⟨s1,F1,h1,lJ,a1,a2,a3⟩:=tJ hc hB s F h e' hr he;exact⟨s1,F1,h1,lJ,.iB a1 hx,a2,a3⟩
 |exit=>intro _ hB s F h e' hr he;exact⟨s,F,h,e',.exit,.refl hr hB,he⟩
 |ret=>intro _ hB s F h e' hr he;exact⟨s,F,h,e',.ret,.refl hr hB,he⟩
 |@rangeFunc B gg ps a b e g f first aM v g2 st x hao Bf _ hl hst hx ih=>
  intro hc hB s F h e' hr he;simp only[ff,Bool.and_eq_true] at hc;have hg:=he.ev hc.1.1 hao;rw[Bf] at hg;generalize hg':e'.ev gg=fv at hg;cases hg with
  |@func _ _ first' _ oM f1 f2 f3 f4=>
   have o1:=sI (x:=.loop 0 none e ps a b) (x':=.loop 0 none e' ps a b) hr (.loop he hc.1.2 hc.2);have hs0:ko s g.next h.next g.next=h.next:=by unfold ko;rw[if_pos rfl]
   have hm:∀{l l':List AV},bf s g.next F h l l'→bf (ko s g.next h.next) (g.new (.loop 0 none e ps a b)).next F (h.new (.loop 0 none e' ps a b)) l l':=
    fun q=>q.mono o1.bB o1.next (fun _=>id) (o1.ke hr)
   have hy:Rel (ko s g.next h.next) (g.new (.loop 0 none e ps a b)).next F (h.new (.loop 0 none e' ps a b)) (.yield g.next) (.yield h.next):=by
    have:=Rel.yield (s:=ko s g.next h.next) (n:=(g.new (.loop 0 none e ps a b)).next) (F:=F) (h:=h.new (.loop 0 none e' ps a b)) (b:=g.next) (by simp);rw[hs0] at this;exact this
   obtain⟨s2,F2,h2,v',b1,b2,b3⟩:=ih _ F _ _ o1.hr ((hm ⟨f1,f2⟩).append (.cons hy (hm ⟨f3,f4⟩)));have o2:=o1.trans hr (b2.weaken (by simp));have uO:s2 g.next=h.next:=by rw[b2.bB _ (by simp),hs0]
   obtain⟨y,IU,xz⟩:=b2.hr.bK _ _ hl;obtain⟨e3,rfl,he3,c1,c2⟩:=m9 xz;rw[uO] at IU;obtain⟨st',p',hk⟩:=b2.loops h.next 0 none e' ps a b (by rw[Heap.bX,if_pos rfl]);rw[hk] at IU;cases IU
   have iU:=oe (b:=g.next) (x:=.loop 3 (dO x) e ps a b) (x':=.loop 3 (dO x) e' ps a b) b2.hr (by rw[hl];simp)
    (.loop he3 c1 c2) (by
     intro st p e5 ps5 a5 c5 gy;rw[uO,hk] at gy;cases gy
     exact⟨_,_,rfl⟩)
   rw[uO] at iU;refine⟨s2,F2,_,e',.rangeFunc hg' b1 hk hst hx,(o2.weaken hB).trans hr (iU.weaken (Nat.le_trans hB o2.next)),?_⟩;exact he.mono o2.bB o2.next o2.sub (fun c hc=>by rw[iU.ke b2.hr c (o2.sub c hc),o2.ke hr c hc])
 |@SH B rd c e g i v v' bs r Bf hf _ ih=>
  cases r with
  |code x e2 g2=>
   intro hc hB s F h e' hr he;have o1:=zw hr bs;have uk:ER s (fh bs g).next (fun b=>F b∨∃c,c∈bs∧g.get c≠none∧s c=b) h (Tr.set e i v') e':=by
    rw[fE];intro t u hu;rw[Tr.bT] at hu;split at hu
    ·rename_i ht;subst ht;cases hu
     exact p6 hf hr (fun _ hb=>.inl hb) (fun b hb hn=>.inr ⟨b,hb,hn,rfl⟩) (he t v Bf)
    ·exact(he t u hu).mono (fun _ _=>rfl) (Nat.le_refl _) (fun _ hb=>.inl hb) (fun _ _=>rfl)
   obtain⟨s1,F1,h1,lJ,a1,a2,a3⟩:=ih hc (by rw[fE];exact hB) s _ h e' o1.hr uk;exact⟨s1,F1,h1,lJ,a1,(o1.weaken hB).trans hr a2,a3⟩
  |ops _ _ _=>exact ih.elim
  |val _ _=>exact ih.elim
  |mC _ _=>exact ih.elim
  |post _=>exact ih.elim
 |@drop B rd c e g e1 r hd _ ih=>
  cases r with
  |code x e2 g2=>
   intro hc hB s F h e' hr he;exact ih hc hB s F h e' hr (fun i v hv=>he i v (hd i v hv))
  |ops _ _ _=>exact ih.elim
  |val _ _=>exact ih.elim
  |mC _ _=>exact ih.elim
  |post _=>exact ih.elim
 |@gc B rd c e g p e1 g1 r T2 _ ih=>
  cases r with
  |code x e2 g2=>
   intro hc hB s F h e' hr he;obtain⟨o1,uk⟩:=Qv hr he T2;obtain⟨s1,F1,h1,lJ,a1,a2,a3⟩:=ih hc T2.next _ F h e' o1.hr uk;exact⟨s1,F1,h1,lJ,a1,o1.trans hr a2,a3⟩
  |ops _ _ _=>exact ih.elim
  |val _ _=>exact ih.elim
  |mC _ _=>exact ih.elim
  |post _=>exact ih.elim
 |nil=>intro _ s F h e' hr he;exact⟨s,F,h,e',[],.nil,.refl hr (Nat.le_refl _),he,.nil hr⟩
 |@off B rd i l e g tr e1 g1 hw _ ih=>
  intro hc s F h e' hr he;simp only[jN,Bool.and_eq_true] at hc;obtain⟨s1,F1,h1,lJ,kj,a1,a2,a3,a4⟩:=ih hc.2 s F h (e'.put i.dst .undef) hr (he.put i.dst .undef);exact⟨s1,F1,h1,lJ,_,.off (lU he hw) a1,a2,a3,.cons hr he (.refl hr (Nat.le_refl _)) rfl rfl rfl rfl rfl (fun h=>by simp at h) (fun _=>⟨rfl,rfl⟩) a4⟩
 |@on B rd i l e g v g1 tr e1 g2 hw hj hop _ Da ihl=>
  intro hc s F h e' hr he;simp only[jN,Bool.and_eq_true] at hc;obtain⟨s1,F1,h1,v',a1,a2,a3⟩:=Da hc.1.1 s F h _ hr (he.CJ hc.1.2 hj);have uk:ER s1 g1.next F1 h1 (e.put i.dst v) (e'.put i.dst v'):=(he.mono a2.bB a2.next a2.sub (a2.ke hr)).put i.dst a3;obtain⟨s2,F2,h2,sX,kj,b1,b2,b3,b4⟩:=ihl hc.2 s1 F1 h1 _ a2.hr uk;refine⟨s2,F2,h2,sX,_,.on (lU he hw) a1 b1,a2.trans hr (b2.weaken a2.next),b3,.cons hr he a2 rfl rfl rfl rfl rfl (fun _=>⟨hj,he.CJ hc.1.2 hj,a3,fun o ho=>?_,fun o ho=>?_⟩) (fun h=>by simp at h) b4⟩
  rotate_left
  ·refine⟨?_,?_⟩
   ·rw[ho] at a1;cases a1 with
    |Jl hp=>exact hp
   ·rw[ho] at hop;cases hop with
    |Jl hp=>exact hp
  refine⟨?_,?_⟩
  ·rw[ho] at hop;cases hop with
   |KO hp=>exact hp
  ·rw[ho] at a1;cases a1 with
   |KO hp=>exact hp
 |KO hp=>
  intro hc s F h vals' hr q;obtain⟨v',a1,a2⟩:=Jn q hc hp;exact⟨s,F,h,v',.KO a1,.refl hr (Nat.le_refl _),a2⟩
 |@SU B rd o vals g x f hp=>
  intro hc s F h vals' hr q;obtain⟨x',a1,a2,a3⟩:=PS hr q hc hp;have o1:=sI hr a2;have hs0:ko s g.next h.next g.next=h.next:=by unfold ko;rw[if_pos rfl]
  refine⟨_,F,_,_,.SU a1,o1,?_⟩;have:=a3 (s1:=ko s g.next h.next) (n1:=(g.new x).next) (F1:=F) (h1:=h.new x') (by simp);rw[hs0] at this;exact this
 |Jl hp=>
  intro hc s F h vals' hr q;obtain⟨v',a1,a2⟩:=z6 hr q hc hp;exact⟨s,F,h,v',.Jl a1,.refl hr (Nat.le_refl _),a2⟩
 |RP hp=>
  intro hc s F h vals' hr q;obtain⟨s1,v',h1,a1,a2,a3⟩:=Qp hr q hc hp;exact⟨s1,F,h1,v',.RP a1,a2,a3⟩
 |WE hp=>
  intro hc s F h vals' hr q;obtain⟨s1,v',h1,a1,a2,a3⟩:=MZ hr q hp;exact⟨s1,F,h1,v',.WE a1,a2,a3⟩
 |tN _ ih=>
  intro hc s F h vals' hr q;obtain⟨FJ,args',rfl,q1,q2⟩:=q.cons_inv;obtain⟨s1,F1,h1,v',a1,a2,a3⟩:=ih s F h FJ args' hr q1 q2;exact⟨s1,F1,h1,v',.tN a1,a2,a3⟩
 |o8 hm _ ih=>
  intro hc s F h vals' hr q;obtain⟨y,args',rfl,q1,q2⟩:=q.cons_inv;cases q1 with
  |iface q1=>
   obtain⟨s1,F1,h1,v',a1,a2,a3⟩:=ih s F h _ hr (.cons q1 q2);exact⟨s1,F1,h1,v',.o8 hm a1,a2,a3⟩
 |fD _ ih=>
  intro s F h FJ args' hr q1 q2;cases q1 with
  |func f1 f2 f3 f4=>
   obtain⟨s1,F1,h1,v',a1,a2,a3⟩:=ih s F h _ hr (bf.append ⟨f1,f2⟩ (q2.append ⟨f3,f4⟩));exact⟨s1,F1,h1,v',.fD a1,a2,a3⟩
 |@yield B L args g fZ e ps a b e2 g2 cN x e4 g4 OU sM hg hlen _ Eb _ hx T1 tJ oF=>
  intro s F h FJ args' hr q1 q2;cases q1 with
  |yield hL=>
   obtain⟨y,hy,xz⟩:=hr.bK _ _ hg;obtain⟨e',rfl,he,c1,c2⟩:=m9 xz;obtain⟨s1,F1,h1,sX,a1,a2,a3⟩:=tJ c1 (Nat.le_refl _) s F h _ hr (he.gP (ps:=ps) q2);have rR:s1 L=s L:=a2.bB L hL;obtain⟨y2,IU,QB⟩:=a2.hr.bK _ _ Eb;obtain⟨e5,rfl,Nf,_,_⟩:=m9 QB;obtain⟨st',p',hk⟩:=a2.loops _ _ _ _ _ _ _ hy;rw[rR] at IU;rw[hk] at IU;cases IU
   have iU:=oe (b:=L) (x:=.loop 1 cN e ps a b) (x':=.loop 1 cN e' ps a b) a2.hr (by rw[Eb];simp) (.loop Nf c1 c2) (by
    intro st p e6 ps6 a6 c6 gy;rw[rR,hk] at gy;cases gy
    exact⟨_,_,rfl⟩)
   rw[rR] at iU;have YG:ER s1 (g2.set L (.loop 1 cN e ps a b)).next F1 (h1.set (s L) (.loop 1 cN e' ps a b)) e2 sX:=a3.mono (fun _ _=>rfl) (Nat.le_refl _) (fun _=>id) (iU.ke a2.hr)
   obtain⟨s2,F2,h2,Yq,b1,b2,b3⟩:=oF c2 (Nat.le_trans a2.next (by simp)) s1 F1 _ sX iU.hr YG;have o3:=(a2.trans hr (iU.weaken a2.next)).trans hr b2;have uO:s2 L=s L:=o3.bB L hL;obtain⟨y4,hy4,YR⟩:=b2.hr.bK _ _ T1;obtain⟨e7,rfl,he7,_,_⟩:=m9 YR;obtain⟨aaV,p'',hk2⟩:=o3.loops _ _ _ _ _ _ _ hy;rw[uO,hk2] at hy4;cases hy4
   have Br:=oe (b:=L) (x:=.loop (bif x.cB then 0 else 2) (dO x) e ps a b) (x':=.loop (bif x.cB then 0 else 2) (dO x) e' ps a b) b2.hr (by rw[T1];simp) (.loop he7 c1 c2) (by
    intro st p e6 ps6 a6 c6 gy;rw[uO,hk2] at gy;cases gy
    exact⟨_,_,rfl⟩)
   rw[uO] at Br;exact⟨s2,F2,_,_,.yield hy (by rw[←q2.1];exact hlen) a1 hk b1 hx hk2,o3.trans hr (Br.weaken b2.next),.bool⟩
 |@call B f args g af x e1 g1 vs hf hlen _ hx hres ih=>
  intro s F h args' hr q;obtain⟨s1,F1,h1,lJ,a1,a2,a3⟩:=ih (QS f af hf) (Nat.le_refl _) s F h _ hr (ER.start af.ntmps q);obtain⟨vs',b1,b2⟩:=rG a2.hr a3 hres;exact⟨s1,F1,h1,_,.call hf (by rw[←q.1];exact hlen) a1 hx b1,a2,wP b2⟩
 |@nY B gg ps a b e g f first aM v g2 hao Bf _ ih=>
  intro hc hB s F h e' hr he;simp only[ff,Bool.and_eq_true] at hc;have hg:=he.ev hc.1.1 hao;rw[Bf] at hg;generalize hg':e'.ev gg=fv at hg;cases hg with
  |@func _ _ first' _ oM f1 f2 f3 f4=>
   have o1:=sI (x:=.loop 0 none e ps a b) (x':=.loop 0 none e' ps a b) hr (.loop he hc.1.2 hc.2);have hs0:ko s g.next h.next g.next=h.next:=by unfold ko;rw[if_pos rfl]
   have hm:∀{l l':List AV},bf s g.next F h l l'→bf (ko s g.next h.next) (g.new (.loop 0 none e ps a b)).next F (h.new (.loop 0 none e' ps a b)) l l':=
    fun q=>q.mono o1.bB o1.next (fun _=>id) (o1.ke hr)
   have hy:Rel (ko s g.next h.next) (g.new (.loop 0 none e ps a b)).next F (h.new (.loop 0 none e' ps a b)) (.yield g.next) (.yield h.next):=by
    have:=Rel.yield (s:=ko s g.next h.next) (n:=(g.new (.loop 0 none e ps a b)).next) (F:=F) (h:=h.new (.loop 0 none e' ps a b)) (b:=g.next) (by simp);rw[hs0] at this;exact this
   obtain⟨s2,F2,h2,b1,b2⟩:=ih _ F _ _ o1.hr ((hm ⟨f1,f2⟩).append (.cons hy (hm ⟨f3,f4⟩)));have o2:=o1.trans hr (b2.weaken (by simp));exact⟨s2,F2,h2,e',.nY hg' b1,o2.weaken hB,he.mono o2.bB o2.next o2.sub (o2.ke hr)⟩
 |@Au B L args g fZ e ps a id A l1 i l2 e2 g2 cN e3 g3 tr e4 g4 v g5 hg hlen _ hna Eb FP _ _ hw hj _ tJ ihA ihl Da=>
  intro s F h FJ args' hr q1 q2;cases q1 with
  |yield hL=>
   obtain⟨y,hy,xz⟩:=hr.bK _ _ hg;obtain⟨e',rfl,he,c1,c2⟩:=m9 xz;have c2':=c2;simp only[ff,Bool.and_eq_true] at c2;have fV:jN (l1++i::l2)=true:=c2.2;rw[sA,Bool.and_eq_true] at fV;simp only[jN,Bool.and_eq_true] at fV;obtain⟨s1,F1,h1,sX,a1,a2,a3⟩:=tJ c1 (Nat.le_refl _) s F h _ hr (he.gP (ps:=ps) q2);have rR:s1 L=s L:=a2.bB L hL;obtain⟨y2,IU,QB⟩:=a2.hr.bK _ _ Eb;obtain⟨e5,rfl,Nf,_,_⟩:=m9 QB;obtain⟨st',p',hk⟩:=a2.loops _ _ _ _ _ _ _ hy;rw[rR] at IU;rw[hk] at IU;cases IU
   have iU:=oe (b:=L) (x:=.loop 1 cN e ps a (.block id (.seq A (.ops (l1++i::l2))))) (x':=.loop 1 cN e' ps a (.block id (.seq A (.ops (l1++i::l2))))) a2.hr (by rw[Eb];simp) (.loop Nf c1 c2') (by
    intro st p e6 ps6 a6 c6 gy;rw[rR,hk] at gy;cases gy
    exact⟨_,_,rfl⟩)
   rw[rR] at iU;have YG:ER s1 (g2.set L (.loop 1 cN e ps a (.block id (.seq A (.ops (l1++i::l2)))))).next F1 (h1.set (s L) (.loop 1 cN e' ps a (.block id (.seq A (.ops (l1++i::l2)))))) e2 sX:=a3.mono (fun _ _=>rfl) (Nat.le_refl _) (fun _ hb=>hb) (iU.ke a2.hr)
   obtain⟨s2,F2,h2,xw,b1,b2,b3⟩:=ihA c2.1 (Nat.le_trans a2.next (by simp)) s1 F1 _ sX iU.hr YG;have o3:=(a2.trans hr (iU.weaken a2.next)).trans hr b2;obtain⟨s3,F3,h3,Yq,kj,d1,d2,d3,_⟩:=ihl fV.1 s2 F2 h2 xw b2.hr b3;have o4:=o3.trans hr (d2.weaken b2.next);obtain⟨s4,F4,h4,f1,f2⟩:=Da fV.2.1.1 s3 F3 h3 _ d2.hr (d3.CJ fV.2.1.2 hj);exact⟨s4,F4,h4,.Au hy (by rw[←q2.1];exact hlen) a1 hna hk FP b1 d1 (lU d3 hw) f1,o4.trans hr (f2.weaken o4.next)⟩
 |@NT B rd l1 i l2 e g tr e1 g1 v g2 _ hw hj _ ihl Da=>
  intro hc hB s F h e' hr he;have fV:jN (l1++i::l2)=true:=hc;rw[sA,Bool.and_eq_true] at fV;simp only[jN,Bool.and_eq_true] at fV;obtain⟨s1,F1,h1,lJ,kj,a1,a2,a3,_⟩:=ihl fV.1 s F h e' hr he;obtain⟨s2,F2,h2,b1,b2⟩:=Da fV.2.1.1 s1 F1 h1 _ a2.hr (a3.CJ fV.2.1.2 hj);exact⟨s2,F2,h2,lJ,.NT a1 (lU a3 hw) b1,(a2.trans hr (b2.weaken a2.next)).weaken hB,a3.mono b2.bB b2.next b2.sub (b2.ke a2.hr)⟩
 |@D3 B rd l1 i win e g tr e1 g1 v g2 _ Bs Iu xB hw hj _ ihl Da=>
  intro hc hB s F h e' hr he;have fV:jN (l1++[i])=true:=hc;rw[sA,Bool.and_eq_true] at fV;simp only[jN,Bool.and_eq_true] at fV;obtain⟨s1,F1,h1,lJ,kj,a1,a2,a3,a4⟩:=ihl fV.1 s F h e' hr he;obtain⟨s2,F2,h2,b1,b2⟩:=Da fV.2.1.1 s1 F1 h1 _ a2.hr (a3.CJ fV.2.1.2 hj);have Bq:ni l1 (win.take l1.length) kj h1:=by
   rcases Bs with Bs|Bs
   ·refine mN ?_;rw[List.all_eq_true] at Bs⊢;exact fun x hx=>Bs x (List.mem_of_mem_take hx)
   ·exact y6 fV.1 a4 Bs
  exact⟨s2,F2,h2,lJ,.D3 a1 Bq Iu xB (lU a3 hw) b1,(a2.trans hr (b2.weaken a2.next)).weaken hB,a3.mono b2.bB b2.next b2.sub (b2.ke a2.hr)⟩
 |@vf B rd t x g hp=>
  intro hc s F h vals' hr q;have:=q.iN (l:=[.iface t x]) (by simp[mc,AV.pl,hp]);subst this;exact⟨s,F,h,.vf,.refl hr (Nat.le_refl _)⟩
 |ve _ ih=>
  intro hc s F h vals' hr q;obtain⟨FJ,args',rfl,q1,q2⟩:=q.cons_inv;obtain⟨s1,F1,h1,a1,a2⟩:=ih s F h FJ args' hr q1 q2;exact⟨s1,F1,h1,.ve a1,a2⟩
 |qa hm _ ih=>
  intro hc s F h vals' hr q;obtain⟨y,args',rfl,q1,q2⟩:=q.cons_inv;cases q1 with
  |iface q1=>
   obtain⟨s1,F1,h1,a1,a2⟩:=ih s F h _ hr (.cons q1 q2);exact⟨s1,F1,h1,.qa hm a1,a2⟩
 |zj _ ih=>
  intro s F h FJ args' hr q1 q2;cases q1 with
  |func f1 f2 f3 f4=>
   obtain⟨s1,F1,h1,a1,a2⟩:=ih s F h _ hr (bf.append ⟨f1,f2⟩ (q2.append ⟨f3,f4⟩));exact⟨s1,F1,h1,.zj a1,a2⟩
 |@DW B f args g af v e1 g1 hf hlen _ ih=>
  intro s F h args' hr q;obtain⟨s1,F1,h1,lJ,a1,a2,a3⟩:=ih (QS f af hf) (Nat.le_refl _) s F h _ hr (ER.start af.ntmps q);exact⟨s1,F1,h1,.DW hf (by rw[←q.1];exact hlen) a1,a2⟩
 |@DV B f args g af A l1 dst r rest e1 g1 tr e2 g2 gf first aM x e3 g3 ag t l2 iC PE e4 y e5 g5 vs hf hlen Im _ FP _ hj Bf _ hx Us hg Bi hbody Bl GO _ j7 _ hy hres ihA ihl ihr ihp qI=>
  intro s F h args' hr q;have CW:=QS f af hf;rw[Im] at CW;simp only[ff,Bool.and_eq_true] at CW;obtain⟨hcA,YU,hcR⟩:=CW;rw[sA,Bool.and_eq_true] at YU;have TO:kI [r]=true:=by
   have:=YU.2;simp only[jN,qG,kI,Bool.and_eq_true] at this;simp only[kI,Bool.and_true];exact this.1.2.2.1
  have Po:=QS gf ag hg;rw[hbody] at Po;simp only[ff,jN,Bool.and_eq_true] at Po;obtain⟨s1,F1,h1,lJ,a1,a2,a3⟩:=ihA hcA (Nat.le_refl _) s F h _ hr (ER.start af.ntmps q);obtain⟨s2,F2,h2,sX,kj,b1,b2,b3,_⟩:=ihl YU.1 s1 F1 h1 lJ a2.hr a3;have o12:=a2.trans hr (b2.weaken a2.next);have hfr:=(b3.CJ TO hj).2 0 _ _ rfl rfl;rw[Bf] at hfr;obtain⟨s3,F3,h3,xw,c1,c2,c3⟩:=ihr hcR (Nat.le_refl _) s2 F2 h2 _ b2.hr (b3.put dst .undef);have o23:=o12.trans hr (c2.weaken o12.next);generalize hw:sX.ev r=fw at hfr;cases hfr with
  |func f1 f2 f3 f4=>
   rename_i first' oM;have CT:bf s2 g2.next F2 h2 (first++aM) (first'++oM):=bf.append ⟨f1,f2⟩ ⟨f3,f4⟩;have hargs:bf s3 g3.next F3 h3 (first++aM) (first'++oM):=⟨CT.1,fun i x y hx hy=>(CT.2 i x y hx hy).mono c2.bB c2.next c2.sub (c2.ke b2.hr)⟩;have hstart:ER s3 g3.next F3 h3 ((Env.start ag.ntmps (first++aM)).put (some t) (oD x)) ((Env.start ag.ntmps (first'++oM)).put (some t) (oD x)):=(ER.start ag.ntmps hargs).put (some t) (.dX Us);obtain⟨s4,F4,h4,Yq,aaW,d1,d2,d3,_⟩:=ihp Po.1.2 s3 F3 h3 _ c2.hr hstart;have hh:=rF j7 d1;subst hh;obtain⟨s5,F5,h5,e5',m1,m2,m3⟩:=qI Po.2 (Nat.le_refl _) s4 F4 h4 Yq d2.hr d3;have UE:=d2.trans c2.hr (m2.weaken d2.next);have hall:=o23.trans hr (UE.weaken o23.next);have e35:ER s5 g5.next F5 h5 e3 xw:=c3.mono UE.bB UE.next UE.sub (UE.ke c2.hr);obtain⟨vs',p1,p2⟩:=rG m2.hr e35 hres;exact⟨s5,F5,h5,_,.DV hf (by rw[←q.1];exact hlen) Im a1 FP b1 hw c1 hx hg (by rw[←CT.1];exact Bi) hbody Bl GO d1 j7 m1 hy p1,hall,wP p2⟩
 |@pure B f args g v g1 v' _ kY hfz hcl' ih=>
  intro s F h args' hr q;have q0:bf s 0 F h args args':=q.clean kY;obtain⟨s1,F1,h1,w,a1,a2,a3⟩:=ih s F h args' (HS hr) q0;have C4:Rel s1 g1.next (fun b=>F1 b∨∃c,g1.get c≠none∧s1 c=b) h1 v' w:=p6 hfz a2.hr (fun _ hb=>.inl hb) (fun b _ hn=>.inr ⟨b,hn,rfl⟩) a3;have hnew:∀b,(F1 b∨∃c,g1.get c≠none∧s1 c=b)→b<h.next→F b:=by
   rintro b (hb|⟨c,hc,rfl⟩) hlt
   ·rcases a2.new b hb hlt with hf|⟨c,hc,_⟩
    ·exact hf
    ·exact absurd rfl hc
   ·rcases a2.fresh c (Nat.zero_le _) hc with h1|⟨c0,h1,_⟩
    ·omega
    ·exact absurd rfl h1
  have oW:∀b,b<h.next→h1.get b=h.get b:=fun b hb=>a2.xI b hb (fun c hc=>absurd rfl hc);refine⟨s,fun b=>F b∨(h.next≤b∧(F1 b∨∃c,g1.get c≠none∧s1 c=b)),h1,w,a1,?_,?_⟩
  ·refine⟨⟨hr.top,a2.hr.qu,?_,?_,hr.inj,?_⟩,Nat.le_refl _,a2.hnext,fun _ _=>rfl,fun b hb=>.inl hb,?_,fun b hb _=>oW b hb,fun c hc hn=>.inr ⟨c,hn,rfl⟩,fun c _ hn=>hn,?_⟩
   ·rintro b (hb|⟨_,hb|⟨c,hc,rfl⟩⟩)
    ·exact Nat.lt_of_lt_of_le (hr.nM b hb) a2.hnext
    ·exact a2.hr.nM b hb
    ·exact a2.hr.slt hc
   ·intro b x hx;obtain⟨y,hy,xz⟩:=hr.bK b x hx;have hlt:=hr.slt (b:=b) (by rw[hx];simp);exact⟨y,by rw[oW _ hlt];exact hy,xz.mono (fun _ _=>rfl) (Nat.le_refl _) (fun _ hb=>.inl hb) (fun c hc=>oW c (hr.nM c hc))⟩
   ·rintro b hb (hf|⟨hle,_⟩)
    ·exact hr.own b hb hf
    ·have:=hr.slt hb;omega
   ·rintro b (hb|⟨hle,_⟩) hlt
    ·exact .inl hb
    ·omega
   ·intro b st p e ps a c hb;exact a2.loops b st p e ps a c hb
  ·refine(C4.clean (s':=s) (n':=g.next) hcl').mono (fun _ _=>rfl) (Nat.le_refl _) ?_ (fun _ _=>rfl);intro b hb;by_cases hlt:b<h.next
   ·exact .inl (hnew b hb hlt)
   ·exact .inr ⟨by omega,hb⟩
 |@Yv B f args args1 g bs v g1 hfz _ ih=>
  intro s F h args' hr q;have o1:=zw hr bs;have q1:bf s (fh bs g).next (fun b=>F b∨∃c,c∈bs∧g.get c≠none∧s c=b) h args1 args':=by
   rw[fE];refine⟨by rw[←hfz.1];exact q.1,fun i x y hx hy=>?_⟩;have hl:=(List.getElem?_eq_some_iff.1 hx).1;have hz:=List.getElem?_eq_getElem (l:=args) (i:=i) (by rw[hfz.1];exact hl);exact p6 (hfz.2 i _ x hz hx) hr (fun _ hb=>.inl hb) (fun b hb hn=>.inr ⟨b,hb,hn,rfl⟩) (q.2 i _ y hz hy)
  obtain⟨s1,F1,h1,w,a1,a2,a3⟩:=ih s _ h args' o1.hr q1;rw[fE] at a2;exact⟨s1,F1,h1,w,a1,o1.trans hr a2,a3⟩
 |@Yw B f args g bs v v' g1 _ hfz ih=>
  intro s F h args' hr q;obtain⟨s1,F1,h1,w,a1,a2,a3⟩:=ih s F h args' hr q;have o1:=zw a2.hr bs;refine⟨s1,_,h1,w,a1,a2.trans hr (o1.weaken a2.next),?_⟩;rw[fE];exact p6 hfz a2.hr (fun _ hb=>.inl hb) (fun b hb hn=>.inr ⟨b,hb,hn,rfl⟩) a3
 |@closed B f args g v h1 hb hpa SQ=>
  intro s F h args' hr q;have ha:=q.iN hpa;subst ha;exact⟨s,F,h,v,.fresh hb (BQ hpa) (Dp SQ),.refl hr (Nat.le_refl _),.dX SQ⟩
 |@view B f args args1 g v g1 hfz kY _ j7 ih=>
  intro s F h args' hr q;have q1:bf s g.next (fun b=>b<h.next) h args1 args':=by
   refine⟨by rw[←hfz.1];exact q.1,fun i x y hx hy=>?_⟩;have hl:=(List.getElem?_eq_some_iff.1 hx).1;have hz:=List.getElem?_eq_getElem (l:=args) (i:=i) (by rw[hfz.1];exact hl);exact p6 (hfz.2 i _ x hz hx) hr (fun b hb=>hr.nM b hb) (fun b _ hn=>hr.slt hn) (q.2 i _ y hz hy)
  have q0:=bf.clean (s':=s) (n':=0) q1 kY;have GQ:HR s (fun b=>b<h.next) ⟨0,.nil⟩ h:=by
   refine⟨fun b _=>rfl,hr.qu,fun b hb=>hb,fun b x hx=>?_,fun b c hb=>absurd rfl hb,fun b hb=>absurd rfl hb⟩;have:(none:Option dD)=some x:=hx;simp at this
  obtain⟨s1,F1,h1,w,a1,a2,a3⟩:=ih s (fun b=>b<h.next) h args' GQ q0;have oW:∀b,b<h.next→h1.get b=h.get b:=fun b hb=>a2.xI b hb (fun c hc=>absurd rfl hc);have hw:=a3.iN j7;subst hw;refine⟨s,F,h1,_,a1,?_,.dX j7⟩;refine⟨⟨hr.top,a2.hr.qu,fun b hb=>Nat.lt_of_lt_of_le (hr.nM b hb) a2.hnext,?_,hr.inj,hr.own⟩,Nat.le_refl _,a2.hnext,fun _ _=>rfl,fun b hb=>hb,fun b hb _=>.inl hb,fun b hb _=>oW b hb,fun c hc hn=>.inr ⟨c,hn,rfl⟩,fun c _ hn=>hn,?_⟩
  ·intro b x hx;obtain⟨y,hy,xz⟩:=hr.bK b x hx;have hlt:=hr.slt (b:=b) (by rw[hx];simp);exact⟨y,by rw[oW _ hlt];exact hy,xz.mono (fun _ _=>rfl) (Nat.le_refl _) (fun _ hb=>hb) (fun c hc=>oW c (hr.nM c hc))⟩
  ·intro b st p e ps a c hb;exact a2.loops b st p e ps a c hb
 |@PJ B f args args1 g g1 b0 o len cap op vs wr es hfz kY _ Wu j7 ih=>
  intro s F h args' hr q;have q1:bf s g.next (fun b=>b<h.next) h args1 args':=by
   refine⟨by rw[←hfz.1];exact q.1,fun i x y hx hy=>?_⟩;have hl:=(List.getElem?_eq_some_iff.1 hx).1;have hz:=List.getElem?_eq_getElem (l:=args) (i:=i) (by rw[hfz.1];exact hl);exact p6 (hfz.2 i _ x hz hx) hr (fun b hb=>hr.nM b hb) (fun b _ hn=>hr.slt hn) (q.2 i _ y hz hy)
  have q0:=bf.clean (s':=s) (n':=0) q1 kY;have GQ:HR s (fun b=>b<h.next) ⟨0,.nil⟩ h:=by
   refine⟨fun b _=>rfl,hr.qu,fun b hb=>hb,fun b x hx=>?_,fun b c hb=>absurd rfl hb,fun b hb=>absurd rfl hb⟩;have:(none:Option dD)=some x:=hx;simp at this
  obtain⟨s1,F1,h1,w,a1,a2,a3⟩:=ih s (fun b=>b<h.next) h args' GQ q0;have oW:∀b,b<h.next→h1.get b=h.get b:=fun b hb=>a2.xI b hb (fun c hc=>absurd rfl hc);have hfr:h.next≤s1 b0:=by
   rcases a2.fresh b0 (Nat.zero_le _) (by rw[Wu];simp) with h2|⟨c0,h2,_⟩
   ·exact h2
   ·exact absurd rfl h2
  obtain⟨y0,hy0,YQ⟩:=a2.hr.bK b0 _ Wu;have hs:∀b,b<g.next→(if b=g.next then s1 b0 else s b)=s b:=fun b hb=>if_neg (by omega);refine⟨fun b=>if b=g.next then s1 b0 else s b,F,h1,_,a1,?_,?_⟩
  ·refine⟨⟨?_,a2.hr.qu,fun b hb=>Nat.lt_of_lt_of_le (hr.nM b hb) a2.hnext,?_,?_,?_⟩,by simp,a2.hnext,hs,fun b hb=>hb,fun b hb _=>.inl hb,fun b hb _=>oW b hb,?_,?_,?_⟩
   ·intro b hb;simp only[Heap.Jg] at hb;rw[Heap.bX,if_neg (by omega)];exact hr.top b (by omega)
   ·intro b x hx;rw[Heap.bX] at hx;by_cases uW:b=g.next
    ·rw[if_pos uW] at hx;cases hx
     simp only[if_pos uW];refine⟨y0,hy0,?_⟩;cases YQ with
     |cells r hw=>
      refine .cells ⟨r.1,fun i x y hx hy=>?_⟩ hw;have Us:=iQ j7 hx;have:=(r.2 i x y hx hy).iN Us;subst this;exact .dX Us
    ·rw[if_neg uW] at hx;simp only[if_neg uW];obtain⟨y,hy,xz⟩:=hr.bK b x hx;have hlt:=hr.slt (b:=b) (by rw[hx];simp);exact⟨y,by rw[oW _ hlt];exact hy,xz.mono hs (by simp) (fun _ hb=>hb) (fun c hc=>oW c (hr.nM c hc))⟩
   ·intro b c hb hc he;rw[Heap.bX] at hb hc;by_cases h2:b=g.next<;>by_cases h3:c=g.next
    ·rw[h2,h3]
    ·rw[if_neg h3] at hc;simp only[if_pos h2,if_neg h3] at he;have:=hr.slt hc;omega
    ·rw[if_neg h2] at hb;simp only[if_pos h3,if_neg h2] at he;have:=hr.slt hb;omega
    ·rw[if_neg h2] at hb;rw[if_neg h3] at hc;simp only[if_neg h2,if_neg h3] at he;exact hr.inj b c hb hc he
   ·intro b hb hF;rw[Heap.bX] at hb;by_cases h2:b=g.next
    ·simp only[if_pos h2] at hF;have:=hr.nM _ hF;omega
    ·rw[if_neg h2] at hb;simp only[if_neg h2] at hF;exact hr.own b hb hF
   ·intro c hc hn;rw[Heap.bX] at hn;by_cases h2:c=g.next
    ·simp only[if_pos h2];exact .inl hfr
    ·rw[if_neg h2] at hn;exact absurd (hr.top c hc) hn
   ·intro c hc hn;rw[Heap.bX,if_neg (by omega)] at hn;exact hn
   ·intro b st p e ps a c hb;exact a2.loops b st p e ps a c hb
  ·cases a3 with
   |sl hlt=>
    have:=Rel.sl (s:=fun b=>if b=g.next then s1 b0 else s b) (n:=(g.new (.cells vs wr es)).next) (F:=F) (h:=h1) (b:=g.next) (o:=o) (len:=len) (cap:=cap) (op:=op) (by simp);simpa using this
end
end Ads
end Go.Proofs.YtnlcabhfkpafmaaGreat
