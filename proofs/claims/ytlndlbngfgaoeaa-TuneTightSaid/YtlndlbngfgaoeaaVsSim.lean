/-
  What Vs does is done in Ads.
-/
import Derived.Test.YtlndlbngfgaoeaaVsEff
set_option linter.unusedVariables false
set_option linter.unusedSimpArgs false
namespace Go.Proofs.Ytlndlbngfgaoeaa
namespace Ads

section
variable {s : Nat → Nat} {n : Nat} {F : Nat → Prop} {g h : Heap}

theorem delAll_get {bs : List Nat} : ∀ {g : Heap} (b : Nat), (delAll bs g).get b = if b ∈ bs then none else g.get b := by
 induction bs with
 | nil => intro g b; simp [delAll]
 | cons a bs ih =>
  intro g b
  simp only [delAll, ih, Heap.get_del, List.mem_cons]
  by_cases h1 : b ∈ bs <;> by_cases h2 : b = a <;> simp [h1, h2]
theorem delAll_next {bs : List Nat} : ∀ {g : Heap}, (delAll bs g).next = g.next := by
 induction bs with
 | nil => intro g; rfl
 | cons a bs ih => intro g; simp only [delAll, ih]; rfl

theorem frz_rel {B : Nat → Prop} {F' : Nat → Prop} {v v' : AV} (f : Frz B g v v') (r : HR s F g h) (hF : ∀ b, F b → F' b) (hB : ∀ b, B b → g.get b ≠ none → F' (s b)) :
  ∀ {w : AV}, Rel s g.next F h v w → Rel s g.next F' h v' w := by
 induction f with
 | clean _ => intro w q; exact q.mono (fun _ _ => rfl) (Nat.le_refl _) hF (fun _ _ => rfl)
 | agg h1 _ ih =>
  intro w q
  cases q with
  | agg g1 g2 =>
   refine .agg (h1 ▸ g1) fun i x y hx hy => ?_
   rename_i cs cs' ws _
   have hl := (List.getElem?_eq_some_iff.1 hx).1
   have hz := List.getElem?_eq_getElem (l := cs) (i := i) (by rw [h1]; exact hl)
   exact ih i _ x hz hx (g2 i _ y hz hy)
 | tup h1 _ ih =>
  intro w q
  cases q with
  | tup g1 g2 =>
   refine .tup (h1 ▸ g1) fun i x y hx hy => ?_
   rename_i cs cs' ws _
   have hl := (List.getElem?_eq_some_iff.1 hx).1
   have hz := List.getElem?_eq_getElem (l := cs) (i := i) (by rw [h1]; exact hl)
   exact ih i _ x hz hx (g2 i _ y hz hy)
 | iface _ ih =>
  intro w q
  cases q with
  | iface g1 => exact .iface (ih g1)
 | nils => intro w q; cases q; exact .fznil
 | func h1 _ h2 _ ih1 ih2 =>
  intro w q
  cases q with
  | func g1 g2 g3 g4 =>
   rename_i fn a a' c c' _ _ wa wc
   refine .func (h1 ▸ g1) (fun i x y hx hy => ?_) (h2 ▸ g3) fun i x y hx hy => ?_
   ·have hl := (List.getElem?_eq_some_iff.1 hx).1
    have hz := List.getElem?_eq_getElem (l := a) (i := i) (by rw [h1]; exact hl)
    exact ih1 i _ x hz hx (g2 i _ y hz hy)
   ·have hl := (List.getElem?_eq_some_iff.1 hx).1
    have hz := List.getElem?_eq_getElem (l := c) (i := i) (by rw [h2]; exact hl)
    exact ih2 i _ x hz hx (g4 i _ y hz hy)
 | ptr hb hg h1 h2 _ ih =>
  intro w q
  cases q with
  | ptr hlt =>
   rename_i b o base o' cs vs wr es _
   obtain ⟨vs', wr', hy, hr, _⟩ := r.cells hg
   refine .fp (hB _ hb (by rw [hg]; simp)) hy h1 (by rw [← hr.1]; exact h2) fun j c y hc hy' => ?_
   have hl := (List.getElem?_eq_some_iff.1 hy').1
   have hz := List.getElem?_eq_getElem (l := vs) (i := base + j) (by rw [hr.1]; exact hl)
   exact ih j c _ hc hz (hr.2 _ _ y hz hy')
 | sl hb hg h1 h2 h3 h4 hk3 h5 h6 _ ih =>
  intro w q
  cases q with
  | sl hlt =>
   obtain ⟨vs', wr', hy, hr, _⟩ := r.cells hg
   refine .fz (hB _ hb (by rw [hg]; simp)) hy h1 h2 (by rw [← hr.1]; exact h3) h4 hk3 h5 h6 fun i x j c y hx hc hy' => ?_
   rename_i vs _ _ _ _
   have hl := (List.getElem?_eq_some_iff.1 hy').1
   have hz := List.getElem?_eq_getElem (by rw [hr.1]; exact hl)
   exact ih i x j c _ hx hc hz (hr.2 _ _ y hz hy')

theorem frz_out (r : HR s F g h) (bs : List Nat) : Out g.next s F g h s (fun b => F b ∨ ∃ c, c ∈ bs ∧ g.get c ≠ none ∧ s c = b) (delAll bs g) h := by
 have hgn : ∀ c, (delAll bs g).get c ≠ none → g.get c ≠ none ∧ c ∉ bs := by
  intro c hc
  rw [delAll_get] at hc
  split at hc
  ·exact absurd rfl hc
  ·exact ⟨hc, by assumption⟩
 refine ⟨⟨?_, r.htop, ?_, ?_, ?_, ?_⟩, by rw [delAll_next]; exact Nat.le_refl _, Nat.le_refl _, fun _ _ => rfl, fun b hb => .inl hb, ?_, fun _ _ _ => rfl, ?_, ?_, ?_⟩
 ·intro b hb
  rw [delAll_next] at hb
  rw [delAll_get, r.top b hb]
  simp
 ·rintro b (hb | ⟨c, _, hc, rfl⟩)
  ·exact r.ftop b hb
  ·exact r.slt hc
 ·intro b x hx
  have := hgn b (by rw [hx]; simp)
  rw [delAll_get, if_neg this.2] at hx
  obtain ⟨y, hy, hr⟩ := r.blk b x hx
  refine ⟨y, hy, ?_⟩
  rw [delAll_next]
  exact hr.mono (fun _ _ => rfl) (Nat.le_refl _) (fun _ hb => .inl hb) (fun _ _ => rfl)
 ·intro b c hb hc he
  exact r.inj b c (hgn b hb).1 (hgn c hc).1 he
 ·intro b hb hf
  obtain ⟨h1, h2⟩ := hgn b hb
  rcases hf with hf | ⟨c, hc, hcn, he⟩
  ·exact r.own b h1 hf
  ·exact h2 (r.inj b c h1 hcn he.symm ▸ hc)
 ·rintro b (hb | ⟨c, hc, hcn, rfl⟩) _
  ·exact .inl hb
  ·exact .inr ⟨c, hcn, rfl⟩
 ·intro c hc hn
  exact absurd (r.top c hc) (hgn c hn).1
 ·intro c hc hn
  exact (hgn c hn).1
 ·intro b st p e ps a c hb
  exact ⟨st, p, hb⟩

theorem resOf_sim {e e' : Env} (r : HR s F g h) (he : ER s g.next F h e e') {rv : RVar} {v : AV} (hv : resOfV e g rv = some v) : ∃ v', resOf e' h rv = some v' ∧ Rel s g.next F h v v' := by
 cases rv with
 | tmp t => exact ⟨_, rfl, he t v hv⟩
 | cell a k agg =>
  simp only [resOf, resOfV] at hv ⊢
  split at hv
  ·rename_i b o hb
   have h1 := he a _ hb
   generalize e'.get a = w at h1
   cases h1 with
   | ptr hlt =>
    cases agg with
    | true =>
     simp only [cond_true, Option.map_eq_some_iff] at hv ⊢
     obtain ⟨cs, hcs, rfl⟩ := hv
     obtain ⟨cs', h2, h3⟩ := loadN_sim r hcs
     exact ⟨.agg cs', ⟨cs', h2, rfl⟩, .agg h3.1 h3.2⟩
    | false =>
     simp only [cond_false] at hv ⊢
     exact load1_sim r hv
  ·simp at hv

theorem resAll_sim {e e' : Env} (r : HR s F g h) (he : ER s g.next F h e e') : ∀ {rs : List RVar} {vs : List AV}, resAllV e g rs = some vs → ∃ vs', resAll e' h rs = some vs' ∧ RelL s g.next F h vs vs'
 | [], vs, hv => by simp only [resAllV, Option.some.injEq] at hv; subst hv; exact ⟨[], rfl, .nil⟩
 | rv :: rs, vs, hv => by
  simp only [resAllV] at hv
  split at hv
  ·rename_i v ws h1 h2
   cases hv
   obtain ⟨v', a1, a2⟩ := resOf_sim r he h1
   obtain ⟨ws', b1, b2⟩ := resAll_sim r he h2
   simp only [resAll, a1, b1]
   exact ⟨_, rfl, .cons a2 b2⟩
  ·simp at hv

theorem resVal_sim {vs vs' : List AV} (q : RelL s n F h vs vs') : Rel s n F h (resVal vs) (resVal vs') := by
 rcases vs with _ | ⟨v, _ | ⟨u, vs⟩⟩
 ·rw [q.nil_inv]; exact .undef
 ·obtain ⟨y, rfl, hy⟩ := q.one; exact hy
 ·obtain ⟨v', l, rfl, h1, h2⟩ := q.cons_inv
  obtain ⟨u', l', rfl, h3, h4⟩ := h2.cons_inv
  have := h1 |> fun h1 => RelL.cons h1 (RelL.cons h3 h4)
  exact .tup this.1 this.2

theorem wanted_sim {e e' : Env} (he : ER s n F h e e') {i : Ins} {b : Bool} (hw : wantedV i e = some b) : wantedA i e' = b := by
 unfold wantedV at hw
 unfold wantedA
 split at hw
 ·rename_i hg
  rw [hg]
  simpa using hw
 ·rename_i d want hg
  rw [hg]
  show (match e'.get d with | .bool b => b == want | _ => false) = b
  have := he d
  generalize Tr.get e d = x at this hw
  generalize e'.get d = y at this
  cases x with
  | none => simp at hw
  | some x =>
   have := this x rfl
   cases this <;> first | (simp only [Option.some.injEq] at hw; exact hw) | (simp at hw)
end

section
variable (fs : Nat → Option AFunc) (ms : Nat → String → Option Nat)

inductive TR : (Nat → Nat) → (Nat → Prop) → Heap → Heap → List Ins → Env → Env → List Mark1 → List Mark1 → (Nat → Nat) → (Nat → Prop) → Heap → Heap → Prop
 | nil {s F g h e e'} : HR s F g h → TR s F g h [] e e' [] [] s F g h
 | cons {s F g h s1 F1 g1 h1 s2 F2 g2 h2 e e'} {i : Ins} {l : List Ins} {m m' : Mark1} {tr tr'} : HR s F g h → ER s g.next F h e e' → Out g.next s F g h s1 F1 g1 h1 → m.h = g → m'.h = h → m'.on = m.on →
   m.vals = i.args.map e.ev → m'.vals = i.args.map e'.ev →
   (m.on = true → argsOk e i.args = true ∧ RelL s g.next F h m.vals m'.vals ∧ Rel s1 g1.next F1 h1 m.v m'.v ∧ (∀ o, i.op = .p o → pV o m.vals = some m.v ∧ pI o m'.vals = some m'.v) ∧ ∀ o, i.op = .r o → rI o m'.vals h = some m'.v ∧ rV o m.vals g = some m.v) →
   (m.on = false → m.v = .undef ∧ m'.v = .undef) →
   TR s1 F1 g1 h1 l (e.put i.dst m.v) (e'.put i.dst m'.v) tr tr' s2 F2 g2 h2 → TR s F g h (i :: l) e e' (m :: tr) (m' :: tr') s2 F2 g2 h2

def Sim (B : Nat) : Task → Res → Prop
 | .code rd c e g, .code x e1 g1 => codeC c = true → B ≤ g.next → ∀ s F h e', HR s F g h → ER s g.next F h e e' → ∃ s1 F1 h1 e1', BS fs ms (.code rd c e' h) (.code x e1' h1) ∧ Out B s F g h s1 F1 g1 h1 ∧ ER s1 g1.next F1 h1 e1 e1'
 | .ops rd l e g, .ops tr e1 g1 => insC l = true → ∀ s F h e', HR s F g h → ER s g.next F h e e' → ∃ s1 F1 h1 e1' tr', BS fs ms (.ops rd l e' h) (.ops tr' e1' h1) ∧ Out g.next s F g h s1 F1 g1 h1 ∧ ER s1 g1.next F1 h1 e1 e1' ∧ TR s F g h l e e' tr tr' s1 F1 g1 h1
 | .op rd o vals g, .val v g1 => opC o = true → ∀ s F h vals', HR s F g h → RelL s g.next F h vals vals' → ∃ s1 F1 h1 v', BS fs ms (.op rd o vals' h) (.val v' h1) ∧ Out g.next s F g h s1 F1 g1 h1 ∧ Rel s1 g1.next F1 h1 v v'
 | .callv fv args g, .val v g1 => ∀ s F h fv' args', HR s F g h → Rel s g.next F h fv fv' → RelL s g.next F h args args' → ∃ s1 F1 h1 v', BS fs ms (.callv fv' args' h) (.val v' h1) ∧ Out g.next s F g h s1 F1 g1 h1 ∧ Rel s1 g1.next F1 h1 v v'
 | .call f args g, .val v g1 => ∀ s F h args', HR s F g h → RelL s g.next F h args args' → ∃ s1 F1 h1 v', BS fs ms (.call f args' h) (.val v' h1) ∧ Out g.next s F g h s1 F1 g1 h1 ∧ Rel s1 g1.next F1 h1 v v'
 | .op rd o vals g, .pan v g1 => opC o = true → ∀ s F h vals', HR s F g h → RelL s g.next F h vals vals' → ∃ s1 F1 h1, BS fs ms (.op rd o vals' h) (.pan v h1) ∧ Out g.next s F g h s1 F1 g1 h1
 | .callv fv args g, .pan v g1 => ∀ s F h fv' args', HR s F g h → Rel s g.next F h fv fv' → RelL s g.next F h args args' → ∃ s1 F1 h1, BS fs ms (.callv fv' args' h) (.pan v h1) ∧ Out g.next s F g h s1 F1 g1 h1
 | .call f args g, .pan v g1 => ∀ s F h args', HR s F g h → RelL s g.next F h args args' → ∃ s1 F1 h1, BS fs ms (.call f args' h) (.pan v h1) ∧ Out g.next s F g h s1 F1 g1 h1
 | _, _ => False
end

section
variable {fs : Nat → Option AFunc} {ms : Nat → String → Option Nat} {s : Nat → Nat} {F : Nat → Prop} {g h : Heap}

theorem ren_rel {p : Nat → Nat} {n n' : Nat} {v v' : AV} (f : Ren p n' v v') : ∀ {w : AV}, Rel s n F h v' w → Rel (fun b => s (p b)) n' F h v w := by
 induction f with
 | cl hc => intro w q; exact q.clean hc
 | ptr hb => intro w q; cases q; exact .ptr (s := fun b => s (p b)) hb
 | sl hb => intro w q; cases q; exact .sl (s := fun b => s (p b)) hb
 | map hb => intro w q; cases q; exact .map (s := fun b => s (p b)) hb
 | yield hb => intro w q; cases q; exact .yield (s := fun b => s (p b)) hb
 | iface _ ih => intro w q; cases q with | iface q => exact .iface (ih q)
 | agg h1 _ ih =>
  intro w q
  cases q with
  | agg g1 g2 =>
   rename_i cs cs' _ ws
   refine .agg (h1.trans g1) fun i x y hx hy => ?_
   have hl := (List.getElem?_eq_some_iff.1 hx).1
   have hz := List.getElem?_eq_getElem (l := cs') (i := i) (by rw [← h1]; exact hl)
   exact ih i x _ hx hz (g2 i _ y hz hy)
 | tup h1 _ ih =>
  intro w q
  cases q with
  | tup g1 g2 =>
   rename_i cs cs' _ ws
   refine .tup (h1.trans g1) fun i x y hx hy => ?_
   have hl := (List.getElem?_eq_some_iff.1 hx).1
   have hz := List.getElem?_eq_getElem (l := cs') (i := i) (by rw [← h1]; exact hl)
   exact ih i x _ hx hz (g2 i _ y hz hy)
 | func h1 _ h2 _ ih1 ih2 =>
  intro w q
  cases q with
  | func g1 g2 g3 g4 =>
   rename_i fn a a' c c' _ _ wa wc
   refine .func (h1.trans g1) (fun i x y hx hy => ?_) (h2.trans g3) fun i x y hx hy => ?_
   ·have hl := (List.getElem?_eq_some_iff.1 hx).1
    have hz := List.getElem?_eq_getElem (l := a') (i := i) (by rw [← h1]; exact hl)
    exact ih1 i x _ hx hz (g2 i _ y hz hy)
   ·have hl := (List.getElem?_eq_some_iff.1 hx).1
    have hz := List.getElem?_eq_getElem (l := c') (i := i) (by rw [← h2]; exact hl)
    exact ih2 i x _ hx hz (g4 i _ y hz hy)

theorem renB_rel {p : Nat → Nat} {n n' : Nat} {x y z : Blk} (f : RenB p n' x y) (q : BR s n F h y z) : BR (fun b => s (p b)) n' F h x z := by
 cases f with
 | cells h1 h2 =>
  rename_i vs vs' wr es
  cases q with
  | cells r hw =>
   refine .cells ⟨h1.trans r.1, fun i a b ha hb => ?_⟩ hw
   have hl := (List.getElem?_eq_some_iff.1 ha).1
   have hz := List.getElem?_eq_getElem (l := vs') (i := i) (by rw [← h1]; exact hl)
   exact ren_rel (h2 i a _ ha hz) (r.2 i _ b hz hb)
 | map h1 h2 =>
  rename_i l l' _ _
  cases q with
  | map r =>
   refine .map ⟨h1.trans r.1, fun i a b ha hb => ?_⟩
   have hl := (List.getElem?_eq_some_iff.1 ha).1
   have hz := List.getElem?_eq_getElem (l := l') (i := i) (by rw [← h1]; exact hl)
   exact ⟨ren_rel (h2 i a _ ha hz).1 (r.2 i _ b hz hb).1, ren_rel (h2 i a _ ha hz).2 (r.2 i _ b hz hb).2⟩
 | loop h1 =>
  cases q with
  | loop r c1 c2 =>
   refine .loop (fun i v hv => ?_) c1 c2
   obtain ⟨u, hu, hr⟩ := h1 i v hv
   exact ren_rel hr (r i u hu)

theorem gc_out {B : Nat} {p : Nat → Nat} {e1 e : Env} {g1 : Heap} {e' : Env} (r : HR s F g1 h) (he : ER s g1.next F h e1 e') (c : GC B p e1 g1 e g) :
  Out B s F g1 h (fun b => s (p b)) F g h ∧ ER (fun b => s (p b)) g.next F h e e' := by
 have hne : ∀ b, g.get b ≠ none → g1.get (p b) ≠ none := by
  intro b hb
  cases hx : g.get b with
  | none => exact absurd hx hb
  | some x =>
   obtain ⟨_, y, hy, _⟩ := c.blks b x hx
   rw [hy]; simp
 refine ⟨⟨⟨?_, r.htop, r.ftop, ?_, ?_, ?_⟩, c.next, Nat.le_refl _, fun b hb => by simp only [c.fix b hb], fun _ => id, fun b hb _ => .inl hb, fun _ _ _ => rfl, ?_, ?_, fun b st p e ps a c hb => ⟨st, p, hb⟩⟩, ?_⟩
 ·intro b hb
  cases hx : g.get b with
  | none => rfl
  | some x => have := (c.blks b x hx).1; omega
 ·intro b x hx
  obtain ⟨_, y, hy, hb⟩ := c.blks b x hx
  obtain ⟨z, hz, hr⟩ := r.blk _ y hy
  exact ⟨z, hz, renB_rel hb hr⟩
 ·intro b d hb hd heq
  exact c.inj b d hb hd (r.inj _ _ (hne b hb) (hne d hd) heq)
 ·intro b hb
  exact r.own _ (hne b hb)
 ·intro d hd hn
  exact .inr ⟨p d, hne d hn, rfl⟩
 ·intro d hd hn
  have := hne d hn
  rw [c.fix d hd] at this
  exact this
 ·intro i v hv
  obtain ⟨u, hu, hr⟩ := c.slots i v hv
  exact ren_rel hr (he i u hu)

theorem readsOk_none' {u : Nat → Heap} : ∀ {l : List Ins} {win : List (List Nat)} {tr : List Mark1}, win.all (·.isEmpty) = true → readsOk u l win tr
 | [], _, _, _ => by simp [readsOk]
 | _ :: _, [], _, _ => by simp [readsOk]
 | _ :: _, _ :: _, [], _ => by simp [readsOk]
 | x :: l, cs :: win, m :: tr, h => by
  simp only [List.all_cons, Bool.and_eq_true] at h
  simp only [readsOk]
  refine ⟨?_, readsOk_none' h.2⟩
  split
  ·intro _ c hc
   rw [List.isEmpty_iff.1 h.1] at hc
   simp at hc
  ·trivial

theorem loop_inv {n : Nat} {st : Nat} {pend : Option AX} {e : Env} {ps : List Nat} {a b : AC} {y : Blk} (r : BR s n F h (.loop st pend e ps a b) y) :
  ∃ e', y = .loop st pend e' ps a b ∧ ER s n F h e e' ∧ codeC a = true ∧ codeC b = true := by
 cases r with
 | loop h1 h2 h3 => exact ⟨_, rfl, h1, h2, h3⟩

theorem empty_hr (r : HR s F g h) : HR s F ⟨0, .nil⟩ h := by
 refine ⟨fun b _ => rfl, r.htop, r.ftop, fun b x hx => ?_, fun b c hb => absurd rfl hb, fun b hb => absurd rfl hb⟩
 have : (none : Option Blk) = some x := hx
 simp at this

theorem pl_inD {D : Dom} : ∀ {v : AV}, v.pl = true → v.inD D := by
 intro v
 refine AV.rec (motive_1 := fun v => v.pl = true → v.inD D) (motive_2 := fun l => plL l = true → allD D l) ?_ ?_ ?_ ?_ ?_ ?_ ?_ ?_ ?_ ?_ ?_ ?_ ?_ ?_ ?_ ?_ ?_ ?_ ?_ ?_ ?_ ?_ v
 case refine_11 =>
  intro fn first capt ih1 ih2 hp
  simp only [AV.pl, Bool.and_eq_true] at hp
  simp only [AV.inD]
  refine ⟨?_, ih1 hp.1.1, ih2 hp.1.2⟩
  intro l e
  subst e
  simp at hp
 case refine_14 => intro t v ih hp; simp only [AV.inD]; exact ih (by simpa [AV.pl] using hp)
 case refine_16 => intro cs ih hp; simp only [AV.inD]; exact ih (by simpa [AV.pl] using hp)
 case refine_17 => intro cs ih hp; simp only [AV.inD]; exact ih (by simpa [AV.pl] using hp)
 case refine_20 => intro b o k hp; simp [AV.pl] at hp
 case refine_21 => intro _; trivial
 case refine_22 => intro x l ih1 ih2 hp; simp only [plL, Bool.and_eq_true] at hp; exact ⟨ih1 hp.1, ih2 hp.2⟩
 all_goals (intros; simp_all [AV.pl, AV.inD])
theorem plL_allD {D : Dom} : ∀ {l : List AV}, plL l = true → allD D l
 | [], _ => trivial
 | x :: l, hp => by simp only [plL, Bool.and_eq_true] at hp; exact ⟨pl_inD hp.1, plL_allD hp.2⟩

section
variable {s s1 : Nat → Nat} {F F1 : Nat → Prop} {g h g1 h1 : Heap} {s0 : Nat → Nat} {F0 : Nat → Prop} {g0 h0 : Heap} {n0 : Nat}

def ERP (P : Nat → Bool) (s : Nat → Nat) (n : Nat) (F : Nat → Prop) (h : Heap) (e e' : Env) : Prop := ∀ i v, P i = true → Tr.get e i = some v → Rel s n F h v (e'.get i)

theorem ERP.evs {P : Nat → Bool} {e e' : Env} (r : ERP P s0 n0 F0 h0 e e') : ∀ {l : List Rand}, goodArgs P l = true → randsC l = true → argsOk e l = true → RelL s0 n0 F0 h0 (l.map e.ev) (l.map e'.ev)
 | [], _, _, _ => .nil
 | .c v :: l, hg, hc, hj => by
  simp only [randsC, Bool.and_eq_true] at hc
  exact .cons (.pl_self hc.1) (r.evs hg hc.2 hj)
 | .t i :: l, hg, hc, hj => by
  simp only [randsC, Bool.and_eq_true] at hc
  simp only [argsOk, Bool.and_eq_true] at hj
  simp only [goodArgs, Bool.and_eq_true] at hg
  obtain ⟨v, hv⟩ := Option.isSome_iff_exists.1 hj.1
  have := r i v hg.1 hv
  rw [← get_of hv] at this
  exact .cons this (r.evs hg.2 hc.2 hj.2)

theorem rV_ne {o : ROp} {vals : List AV} {g : Heap} {v : AV} (h : rV o vals g = some v) : o ≠ .entry := by rintro rfl; simp [rV] at h
theorem rI_ptr {o : ROp} {b k : Nat} {h h' : Heap} {v : AV} (hne : o ≠ .entry) (hg : h'.get b = h.get b) (hv : rI o [.ptr b k] h = some v) : rI o [.ptr b k] h' = some v := by
 cases o with
 | load1 => simp only [rI] at hv ⊢; unfold Heap.load1 Heap.row at hv ⊢; rw [hg]; exact hv
 | loadN n => simp only [rI] at hv ⊢; unfold Heap.loadN Heap.row at hv ⊢; rw [hg]; exact hv
 | entry => exact absurd rfl hne
 | _ => simp [rI] at hv
theorem isFp_eq {l : List AV} (h : isFp l = true) : ∃ cs o, l = [.fp cs o] := by
 unfold isFp at h
 split at h
 ·exact ⟨_, _, rfl⟩
 ·simp at h
theorem rV_fp {o : ROp} {cs : List AV} {k : Nat} {h : Heap} {v : AV} (hv : rV o [.fp cs k] h = some v) (h' : Heap) : rV o [.fp cs k] h' = some v := by
 cases o with
 | load1 => exact hv
 | loadN n => exact hv
 | lookup ok z => simp [rV, rI] at hv
 | toStr => simp [rV, rI, l1] at hv
 | lenM => simp [rV, rI] at hv
 | entry => simp [rV] at hv
theorem dt_eq {s s' : Nat → Nat} {n n' : Nat} {F F' : Nat → Prop} {h h' : Heap} {v x y : AV} (r : Rel s n F h v x) (r' : Rel s' n' F' h' v y) (ha : ∀ b, b < n → b < n' → s' b = s b) (hd : v.dt = true) : y = x := by
 cases v with
 | ptr b o => cases r with | ptr h1 => cases r' with | ptr h2 => rw [ha _ h1 h2]
 | sl b o l c op => cases r with | sl h1 => cases r' with | sl h2 => rw [ha _ h1 h2]
 | map b => cases r with | map h1 => cases r' with | map h2 => rw [ha _ h1 h2]
 | yield b => cases r with | yield h1 => cases r' with | yield h2 => rw [ha _ h1 h2]
 | rest b o k => cases r with | rest h1 => cases r' with | rest h2 => rw [ha _ h1 h2]
 | _ => rw [r.pl_eq hd, r'.pl_eq hd]
theorem small_rel {s s' : Nat → Nat} {n n' : Nat} {F F' : Nat → Prop} {h h' : Heap} {v x : AV} (r : Rel s n F h v x) (ha : ∀ b, b < n → b < n' → s b = s' b) (hd : smallV n' v = true) : Rel s' n' F' h' v x := by
 cases v with
 | ptr b o =>
  cases r with
  | ptr h1 =>
   have h2 : b < n' := Nat.le_of_ble_eq_true hd
   rw [ha _ h1 h2]
   exact .ptr h2
 | sl b o l c op =>
  cases r with
  | sl h1 =>
   have h2 : b < n' := Nat.le_of_ble_eq_true hd
   rw [ha _ h1 h2]
   exact .sl h2
 | _ =>
  rw [r.pl_eq hd]
  exact .pl_self hd
theorem small_relL {s s' : Nat → Nat} {n n' : Nat} {F F' : Nat → Prop} {h h' : Heap} (ha : ∀ b, b < n → b < n' → s b = s' b) : ∀ {l m : List AV}, RelL s n F h l m → smallL n' l = true → RelL s' n' F' h' l m
 | [], m, r, _ => by
  have : m = [] := List.length_eq_zero_iff.1 r.1.symm
  subst this
  exact .nil
 | v :: l, [], r, _ => by have := r.1; simp at this
 | v :: l, x :: m, r, hd => by
  simp only [smallL, Bool.and_eq_true] at hd
  exact .cons (small_rel (r.2 0 v x rfl rfl) ha hd.1) (small_relL ha ⟨by simpa using r.1, fun i a b ha hb => r.2 (i + 1) a b ha hb⟩ hd.2)
theorem TR.fin {l : List Ins} {e e' : Env} {tr tr' : List Mark1} (t : TR s F g h l e e' tr tr' s1 F1 g1 h1) : g.next ≤ g1.next ∧ ∀ b, b < g.next → s1 b = s b := by
 induction t with
 | nil _ => exact ⟨Nat.le_refl _, fun _ _ => rfl⟩
 | cons _ _ ho _ _ _ _ _ _ _ _ ih => exact ⟨Nat.le_trans ho.next ih.1, fun b hb => (ih.2 b (Nat.lt_of_lt_of_le hb ho.next)).trans (ho.agree b hb)⟩
theorem win_rel {l : List Ins} {e e' : Env} {tr tr' : List Mark1} (t : TR s F g h l e e' tr tr' s1 F1 g1 h1) (hr0 : HR s0 F0 g0 h0) : (∀ b, b < g0.next → s1 b = s0 b) → (∀ b, F0 b → F b ∧ h.get b = h0.get b) → ∀ {n : Nat} {P : Nat → Bool}, insC l = true → ERP P s0 g0.next F0 h0 e e' → winAt g0 P l tr n →
  ∀ (i : Ins) (m' : Mark1) (o : ROp), l[n]? = some i → tr'[n]? = some m' → i.op = .r o → rI o m'.vals h0 = some m'.v := by
 induction t with
 | nil _ => intro _ _ n P _ _ hw; simp [winAt] at hw
 | @cons s F g h s1 F1 g1 h1 s2 F2 g2 h2 e e' i l m m' tr tr' hr he ho hmg hmh hon hv hv' hok hoff tl ih =>
  intro hE hK n P hc hP hw
  simp only [insC, Bool.and_eq_true] at hc
  cases n with
  | zero =>
   intro j k o hj hk hop
   simp only [List.getElem?_cons_zero, Option.some.injEq] at hj hk
   subst hj hk
   obtain ⟨w1, w2, w5⟩ := hw
   obtain ⟨a1, a2, a3, a4⟩ := hok w2
   have q : RelL s0 g0.next F0 h0 m.vals m'.vals := by
    rcases Bool.or_eq_true_iff.1 w1 with w1 | w1
    ·rw [hv, hv']; exact hP.evs w1 hc.1.2 a1
    ·exact small_relL (fun b hb1 hb2 => ((ho.agree b hb1).symm.trans (tl.fin.2 b (Nat.lt_of_lt_of_le hb1 ho.next)).symm).trans (hE b hb2)) a2 w1
   rcases w5 with ⟨w3, w4⟩ | ⟨cs, o1, hvals⟩
   rotate_left
   ·rw [hvals] at q
    obtain ⟨y, hy, hrel⟩ := q.one
    cases hrel with
    | fp hF _ _ _ _ =>
     have h5 := (a4.2 o hop).1
     rw [hy] at h5 ⊢
     exact rI_ptr (rV_ne (a4.2 o hop).2) (hK _ hF).2.symm h5
   have hoc : opC (.r o) = true := hop ▸ hc.1.1
   obtain ⟨v', b1, b2⟩ := rV_sim hr0 q hoc (w4 o hop)
   rw [b1, dt_eq b2 a3 (fun b hb1 hb2 => (tl.fin.2 b hb2).symm.trans (hE b hb1)) w3]
  | succ n =>
   intro j k o hj hk hop
   refine ih hE (fun b hb => ⟨ho.sub b (hK b hb).1, (ho.keepF hr b (hK b hb).1).trans (hK b hb).2⟩) hc.2 ?_ hw j k o (by simpa using hj) (by simpa using hk) hop
   intro u v hu hget
   unfold goodStep at hu
   cases hd : i.dst with
   | none =>
    rw [hd] at hu hget
    simp only [Env.put] at hget ⊢
    exact hP u v hu hget
   | some d =>
    rw [hd] at hu hget
    simp only [Env.put] at hget ⊢
    rw [env_get_set]
    rw [Tr.get_set] at hget
    by_cases hud : u = d
    ·subst hud
     rw [if_pos rfl] at hget ⊢
     simp only [Nat.beq_refl, cond_true] at hu
     cases hget
     cases hon' : m.on with
     | false =>
      obtain ⟨z1, z2⟩ := hoff hon'
      rw [z1, z2]
      exact .undef
     | true =>
      obtain ⟨a1, a2, a3, a4⟩ := hok hon'
      cases hop2 : i.op with
      | p o2 =>
       rw [hop2] at hu
       obtain ⟨c1, c2⟩ := a4.1 o2 hop2
       have q : RelL s0 g0.next F0 h0 m.vals m'.vals := by rw [hv, hv']; exact hP.evs hu hc.1.2 a1
       have hoc : popC o2 = true := by have := hc.1.1; rw [hop2] at this; exact this
       obtain ⟨v', b1, b2⟩ := pV_sim q hoc c1
       rw [c2] at b1
       cases b1
       exact b2
      | r o2 =>
       rw [hop2] at hu
       simp only [Bool.and_eq_true] at hu
       obtain ⟨d1, d2⟩ := a4.2 o2 hop2
       have q : RelL s0 g0.next F0 h0 m.vals m'.vals := by rw [hv, hv']; exact hP.evs hu.1 hc.1.2 a1
       obtain ⟨cs, o1, hvals⟩ := isFp_eq hu.2
       rw [hvals] at q d2
       have d3 := rV_fp d2 g0
       have hoc : opC (.r o2) = true := by have := hc.1.1; rw [hop2] at this; exact this
       obtain ⟨v', b1, b2⟩ := rV_sim hr0 q hoc d3
       obtain ⟨y, hy, hrel⟩ := q.one
       cases hrel with
       | fp hF _ _ _ _ =>
        rw [hy] at d1 b1
        rw [rI_ptr (rV_ne d2) (hK _ hF).2.symm d1] at b1
        cases b1
        exact b2
      | _ => rw [hop2] at hu; simp at hu
    ·rw [if_neg hud] at hget ⊢
     have hb : Nat.beq u d = false := by
      cases hb : Nat.beq u d with
      | false => rfl
      | true => exact absurd (Nat.eq_of_beq_eq_true hb) hud
     simp only [hb, cond_false] at hu
     exact hP u v hu hget

theorem TR.from {l : List Ins} {e e' : Env} {tr tr' : List Mark1} (t : TR s F g h l e e' tr tr' s1 F1 g1 h1) : nextHeap tr g1 = g ∧ nextHeap tr' h1 = h ∧ HR s F g h := by
 cases t with
 | nil hr => exact ⟨rfl, rfl, hr⟩
 | cons hr _ _ hg hh => exact ⟨hg, hh, hr⟩

theorem over_keep {l : List Ins} {e e' : Env} {tr tr' : List Mark1} (t : TR s F g h l e e' tr tr' s1 F1 g1 h1) : ∀ {q : Tr Blk} {b : Nat} {x : Blk}, b < h.next → Tr.get q b = some x → Tr.get (over l tr' q) b = some x := by
 induction t with
 | nil _ => intro q b x _ hq; exact hq
 | @cons s F g h s1 F1 g1 h1 s2 F2 g2 h2 e e' i l m m' tr tr' hr he ho hmg hmh hon hv hv' hok hoff _ ih =>
  intro q b x hb hq
  have hb1 : b < h1.next := Nat.lt_of_lt_of_le hb ho.hnext
  unfold over
  split
  ·refine ih hb1 ?_
   rw [Tr.get_set, hmh, if_neg (by omega)]
   exact hq
  ·exact ih hb1 hq

theorem TR.drop {l : List Ins} {e e' : Env} {tr tr' : List Mark1} (t : TR s F g h l e e' tr tr' s1 F1 g1 h1) : ∀ c, c < tr.length →
  ∃ s0 F0 g0 h0 e0 e0', TR s0 F0 g0 h0 (l.drop c) e0 e0' (tr.drop c) (tr'.drop c) s1 F1 g1 h1 ∧ ER s0 g0.next F0 h0 e0 e0' := by
 induction t with
 | nil _ => intro c hc; simp at hc
 | @cons s F g h s1 F1 g1 h1 s2 F2 g2 h2 e e' i l m m' tr tr' hr he ho hmg hmh hon hv hv' hok hoff t ih =>
  intro c hc
  cases c with
  | zero => exact ⟨s, F, g, h, e, e', .cons hr he ho hmg hmh hon hv hv' hok hoff t, he⟩
  | succ c => exact ih c (by simpa using hc)

theorem TR.late {l : List Ins} {e e' : Env} {tr tr' : List Mark1} (t : TR s F g h l e e' tr tr' s1 F1 g1 h1) : ∀ {vals vals' : List AV}, RelL s g.next F h vals vals' → ∀ c, c < tr.length →
  ∃ s0 F0 g0 h0 e0 e0', TR s0 F0 g0 h0 (l.drop c) e0 e0' (tr.drop c) (tr'.drop c) s1 F1 g1 h1 ∧ RelL s0 g0.next F0 h0 vals vals' ∧ ∀ b, F b → h0.get b = h.get b := by
 induction t with
 | nil _ => intro _ _ _ c hc; simp at hc
 | @cons s F g h s1 F1 g1 h1 s2 F2 g2 h2 e e' i l m m' tr tr' hr he ho hmg hmh hon hv hv' hok hoff t ih =>
  intro vals vals' q c hc
  cases c with
  | zero => exact ⟨s, F, g, h, e, e', .cons hr he ho hmg hmh hon hv hv' hok hoff t, q, fun _ _ => rfl⟩
  | succ c =>
   obtain ⟨s0, F0, g0, h0, e0, e0', t0, q0, k0⟩ := ih (q.mono ho.agree ho.next ho.sub (ho.keepF hr)) c (by simpa using hc)
   exact ⟨s0, F0, g0, h0, e0, e0', t0, q0, fun b hb => (k0 b (ho.sub b hb)).trans (ho.keepF hr b hb)⟩
theorem TR.at {l : List Ins} {e e' : Env} {tr tr' : List Mark1} (t : TR s F g h l e e' tr tr' s1 F1 g1 h1) : ∀ (k : Nat) (m m' : Mark1), tr[k]? = some m → tr'[k]? = some m' → m.on = true →
  ∃ s0 F0 g0 h0 e0 e0', TR s0 F0 g0 h0 (l.drop k) e0 e0' (tr.drop k) (tr'.drop k) s1 F1 g1 h1 ∧ RelL s0 g0.next F0 h0 m.vals m'.vals ∧ (∃ sK nK FK hK, Rel sK nK FK hK m.v m'.v ∧ ∀ b, b < nK → s1 b = sK b) ∧ ∀ i o, l[k]? = some i → i.op = .r o → rI o m'.vals h0 = some m'.v ∧ o ≠ .entry := by
 induction t with
 | nil _ => intro k m m' hm; simp at hm
 | @cons s F g h s1 F1 g1 h1 s2 F2 g2 h2 e e' i l m m' tr tr' hr he ho hmg hmh hon hv hv' hok hoff t ih =>
  intro k n n' hn hn' hno
  cases k with
  | zero =>
   simp only [List.getElem?_cons_zero, Option.some.injEq] at hn hn'
   subst hn hn'
   obtain ⟨a1, a2, a3, a4⟩ := hok hno
   exact ⟨s, F, g, h, e, e', .cons hr he ho hmg hmh hon hv hv' hok hoff t, a2, ⟨_, _, _, _, a3, t.fin.2⟩, fun j o hj hop => by simp only [List.getElem?_cons_zero, Option.some.injEq] at hj; subst hj; exact ⟨(a4.2 o hop).1, rV_ne (a4.2 o hop).2⟩⟩
  | succ k =>
   obtain ⟨s0, F0, g0, h0, e0, e0', t0, q0, p0, r0⟩ := ih k n n' (by simpa using hn) (by simpa using hn') hno
   exact ⟨s0, F0, g0, h0, e0, e0', t0, q0, p0, fun j o hj hop => r0 j o (by simpa using hj) hop⟩

theorem readsOk_of {u : Nat → Heap} : ∀ {l : List Ins} {win : List (List Nat)} {tr : List Mark1},
  (∀ (k : Nat) i cs m o, l[k]? = some i → win[k]? = some cs → tr[k]? = some m → i.op = .r o → m.on = true → ∀ c ∈ cs, rI o m.vals (u c) = some m.v) → readsOk u l win tr
 | [], _, _, _ => by simp [readsOk]
 | _ :: _, [], _, _ => by simp [readsOk]
 | _ :: _, _ :: _, [], _ => by simp [readsOk]
 | x :: l, cs :: win, m :: tr, h => by
  simp only [readsOk]
  refine ⟨?_, readsOk_of fun k i cs m o h1 h2 h3 => h (k + 1) i cs m o (by simpa using h1) (by simpa using h2) (by simpa using h3)⟩
  split
  ·rename_i o ho
   intro hon c hc
   exact h 0 x cs m o rfl rfl rfl ho hon c hc
  ·trivial

theorem insC_drop : ∀ {l : List Ins} (c : Nat), insC l = true → insC (l.drop c) = true
 | l, 0, h => h
 | [], c + 1, h => rfl
 | i :: l, c + 1, h => by
  simp only [insC, Bool.and_eq_true] at h
  exact insC_drop c h.2

theorem TR.len {l : List Ins} {e e' : Env} {tr tr' : List Mark1} (t : TR s F g h l e e' tr tr' s1 F1 g1 h1) : tr.length = tr'.length ∧ ∀ (k : Nat) (m m' : Mark1), tr[k]? = some m → tr'[k]? = some m' → m'.on = m.on := by
 induction t with
 | nil _ => exact ⟨rfl, fun k m m' hm => by simp at hm⟩
 | cons _ _ _ _ _ hon _ _ _ _ _ ih =>
  refine ⟨by simp [ih.1], fun k m m' hm hm' => ?_⟩
  cases k with
  | zero =>
   simp only [List.getElem?_cons_zero, Option.some.injEq] at hm hm'
   subst hm hm'
   exact hon
  | succ k => exact ih.2 k m m' (by simpa using hm) (by simpa using hm')

theorem win_sound {l : List Ins} {win : List (List Nat)} {e e' : Env} {tr tr' : List Mark1} (hc : insC l = true) (t : TR s F g h l e e' tr tr' s1 F1 g1 h1) (hw : winOk l win tr g1) : regionOk l win tr' h1 := by
 refine readsOk_of fun k i cs m' o h1' h2 h3 hop hon c hcc => ?_
 have hk' : k < tr'.length := (List.getElem?_eq_some_iff.1 h3).1
 have hk : k < tr.length := by rw [t.len.1]; exact hk'
 have hm : tr[k]? = some tr[k] := List.getElem?_eq_getElem hk
 have hon' : tr[k].on = true := by rw [← t.len.2 k _ _ hm h3]; exact hon
 have key : ∀ s0 F0 g0 h0 e0 e0', TR s0 F0 g0 h0 (l.drop c) e0 e0' (tr.drop c) (tr'.drop c) s1 F1 g1 h1 → rI o m'.vals h0 = some m'.v → rI o m'.vals (heapU l tr' h1 c) = some m'.v := by
  intro s0 F0 g0 h0 e0 e0' t0 hr
  obtain ⟨f1, f2, f3⟩ := t0.from
  refine rI_mono (fun b x hb => ?_) hr
  have hlt : b < h0.next := by
   by_cases hl : b < h0.next
   ·exact hl
   ·rw [f3.htop b (by omega)] at hb; simp at hb
  show Tr.get (over (l.drop c) (tr'.drop c) (nextHeap (tr'.drop c) h1).m) b = some x
  rw [f2]
  exact over_keep t0 hlt hb
 rcases hw k i cs _ o h1' h2 hm hop hon' c hcc with ⟨w1, w2⟩ | ⟨w1, w2, w5⟩
 ·obtain ⟨s0, F0, g0, h0, e0, e0', t0, er0⟩ := t.drop c (by omega)
  obtain ⟨f1, f2, f3⟩ := t0.from
  rw [f1] at w2
  have hr := win_rel t0 f3 t0.fin.2 (fun b hb => ⟨hb, rfl⟩) (insC_drop c hc) (fun i v _ hv => er0 i v hv) w2 i m' o (by rw [List.getElem?_drop]; rw [show c + (k - c) = k by omega]; exact h1') (by rw [List.getElem?_drop]; rw [show c + (k - c) = k by omega]; exact h3) hop
  exact key _ _ _ _ _ _ t0 hr
 ·obtain ⟨s0, F0, g0, h0, e0, e0', t0, q, hpl, hrd⟩ := t.at k _ _ hm h3 hon'
  obtain ⟨s2, F2, g2, h2', e2, e2', t2, q2, hkeep⟩ := t0.late q (c - k) (by rw [List.length_drop]; omega)
  simp only [List.drop_drop, show k + (c - k) = c by omega] at t2
  obtain ⟨f1, f2, f3⟩ := t2.from
  rcases w5 with ⟨w3, w4⟩ | ⟨cs1, o1, hvals⟩
  rotate_left
  ·obtain ⟨h5, hne⟩ := hrd i o h1' hop
   rw [hvals] at q
   obtain ⟨y, hy, hrel⟩ := q.one
   cases hrel with
   | fp hF _ _ _ _ =>
    rw [hy] at h5
    refine key _ _ _ _ _ _ t2 ?_
    rw [hy]
    exact rI_ptr hne (hkeep _ hF) h5
  rw [f1] at w4
  have hoc : opC (.r o) = true := by
   have : ∀ {l : List Ins} {k : Nat} {i : Ins}, insC l = true → l[k]? = some i → opC i.op = true := by
    intro l
    induction l with
    | nil => intro k i _ h; simp at h
    | cons j l ih =>
     intro k i hc h
     simp only [insC, Bool.and_eq_true] at hc
     cases k with
     | zero => simp only [List.getElem?_cons_zero, Option.some.injEq] at h; subst h; exact hc.1.1
     | succ k => exact ih hc.2 (by simpa using h)
   exact hop ▸ this hc h1'
  obtain ⟨v', b1, b2⟩ := rV_sim f3 q2 hoc w4
  refine key _ _ _ _ _ _ t2 ?_
  obtain ⟨sK, nK, FK, hK, k1, k2⟩ := hpl
  rw [b1, dt_eq b2 k1 (fun b hb1 hb2 => (k2 b hb2).symm.trans (t2.fin.2 b hb1)) w3]
end

theorem insC_app {l m : List Ins} : insC (l ++ m) = (insC l && insC m) := by
 induction l with
 | nil => simp [insC]
 | cons i l ih => simp only [List.cons_append, insC, ih, Bool.and_assoc]
theorem VS.sim (hfs : ∀ f af, fs f = some af → codeC af.body = true) {B : Nat} {t : Task} {r : Res} (hv : VS fs ms B t r) : Sim fs ms B t r := by
 induction hv with
 | skip => intro _ hB s F h e' hr he; exact ⟨s, F, h, e', .skip, .refl hr hB, he⟩
 | ops _ ih =>
  intro hc hB s F h e' hr he
  obtain ⟨s1, F1, h1, e1', tr', a1, a2, a3, _⟩ := ih hc s F h e' hr he
  exact ⟨s1, F1, h1, e1', .ops a1, a2.weaken hB, a3⟩
 | dops hw _ ih =>
  intro hc hB s F h e' hr he
  obtain ⟨s1, F1, h1, e1', tr', a1, a2, a3, _⟩ := ih hc s F h e' hr he
  exact ⟨s1, F1, h1, e1', .dops a1 (readsOk_none' hw), a2.weaken hB, a3⟩
 | dopsW hw _ ih =>
  intro hc hB s F h e' hr he
  obtain ⟨s1, F1, h1, e1', tr', a1, a2, a3, a4⟩ := ih hc s F h e' hr he
  exact ⟨s1, F1, h1, e1', .dops a1 (win_sound hc a4 hw), a2.weaken hB, a3⟩
 | @seqN B rd a b e g e1 g1 r _ _ iha ihb =>
  cases r with
  | code x e2 g2 =>
   intro hc hB s F h e' hr he
   simp only [codeC, Bool.and_eq_true] at hc
   obtain ⟨s1, F1, h1, e1', a1, a2, a3⟩ := iha hc.1 hB s F h e' hr he
   obtain ⟨s2, F2, h2, e2', b1, b2, b3⟩ := ihb hc.2 a2.next s1 F1 h1 e1' a2.hr a3
   exact ⟨s2, F2, h2, e2', .seqN a1 b1, a2.trans hr b2, b3⟩
  | ops _ _ _ => exact ihb.elim
  | val _ _ => exact ihb.elim
  | pan _ _ => exact ihb.elim
  | post _ => exact ihb.elim
 | seqX _ hx iha =>
  intro hc hB s F h e' hr he
  simp only [codeC, Bool.and_eq_true] at hc
  obtain ⟨s1, F1, h1, e1', a1, a2, a3⟩ := iha hc.1 hB s F h e' hr he
  exact ⟨s1, F1, h1, e1', .seqX a1 hx, a2, a3⟩
 | @cond B rd c a b e g t r hao ht _ ih =>
  cases r with
  | code x e2 g2 =>
   intro hc hB s F h e' hr he
   simp only [codeC, Bool.and_eq_true] at hc
   have hce := he.ev hc.1.1 hao
   rw [ht] at hce
   have hcc : codeC (bif t then a else b) = true := by cases t; exact hc.2; exact hc.1.2
   obtain ⟨s1, F1, h1, e1', a1, a2, a3⟩ := ih hcc hB s F h e' hr he
   exact ⟨s1, F1, h1, e1', .cond hce.bool_inv a1, a2, a3⟩
  | ops _ _ _ => exact ih.elim
  | val _ _ => exact ih.elim
  | pan _ _ => exact ih.elim
  | post _ => exact ih.elim
 | blockX _ ih =>
  intro hc hB s F h e' hr he
  obtain ⟨s1, F1, h1, e1', a1, a2, a3⟩ := ih hc hB s F h e' hr he
  exact ⟨s1, F1, h1, e1', .blockX a1, a2, a3⟩
 | blockN _ hx ih =>
  intro hc hB s F h e' hr he
  obtain ⟨s1, F1, h1, e1', a1, a2, a3⟩ := ih hc hB s F h e' hr he
  exact ⟨s1, F1, h1, e1', .blockN a1 hx, a2, a3⟩
 | @loopN B rd c e g e1 g1 r _ _ iha ihb =>
  cases r with
  | code x e2 g2 =>
   intro hc hB s F h e' hr he
   obtain ⟨s1, F1, h1, e1', a1, a2, a3⟩ := iha hc hB s F h e' hr he
   obtain ⟨s2, F2, h2, e2', b1, b2, b3⟩ := ihb hc a2.next s1 F1 h1 e1' a2.hr a3
   exact ⟨s2, F2, h2, e2', .loopN a1 b1, a2.trans hr b2, b3⟩
  | ops _ _ _ => exact ihb.elim
  | val _ _ => exact ihb.elim
  | pan _ _ => exact ihb.elim
  | post _ => exact ihb.elim
 | loopX _ hx iha =>
  intro hc hB s F h e' hr he
  obtain ⟨s1, F1, h1, e1', a1, a2, a3⟩ := iha hc hB s F h e' hr he
  exact ⟨s1, F1, h1, e1', .loopX a1 hx, a2, a3⟩
 | exit => intro _ hB s F h e' hr he; exact ⟨s, F, h, e', .exit, .refl hr hB, he⟩
 | ret => intro _ hB s F h e' hr he; exact ⟨s, F, h, e', .ret, .refl hr hB, he⟩
 | @rangeFunc B gg ps a b e g f first capt v g2 st x hao hev _ hl hst hx ih =>
  intro hc hB s F h e' hr he
  simp only [codeC, Bool.and_eq_true] at hc
  have hg := he.ev hc.1.1 hao
  rw [hev] at hg
  generalize hg' : e'.ev gg = fv at hg
  cases hg with
  | @func _ _ first' _ capt' f1 f2 f3 f4 =>
   have o1 := new_out (x := .loop 0 none e ps a b) (x' := .loop 0 none e' ps a b) hr (.loop he hc.1.2 hc.2)
   have hs0 : upd1 s g.next h.next g.next = h.next := by unfold upd1; rw [if_pos rfl]
   have hm : ∀ {l l' : List AV}, RelL s g.next F h l l' → RelL (upd1 s g.next h.next) (g.new (.loop 0 none e ps a b)).next F (h.new (.loop 0 none e' ps a b)) l l' :=
    fun q => q.mono o1.agree o1.next (fun _ => id) (o1.keepF hr)
   have hy : Rel (upd1 s g.next h.next) (g.new (.loop 0 none e ps a b)).next F (h.new (.loop 0 none e' ps a b)) (.yield g.next) (.yield h.next) := by
    have := Rel.yield (s := upd1 s g.next h.next) (n := (g.new (.loop 0 none e ps a b)).next) (F := F) (h := h.new (.loop 0 none e' ps a b)) (b := g.next) (by simp)
    rw [hs0] at this
    exact this
   obtain ⟨s2, F2, h2, v', b1, b2, b3⟩ := ih _ F _ _ o1.hr ((hm ⟨f1, f2⟩).append (.cons hy (hm ⟨f3, f4⟩)))
   have o2 := o1.trans hr (b2.weaken (by simp))
   have hs2 : s2 g.next = h.next := by rw [b2.agree _ (by simp), hs0]
   obtain ⟨y, hy2, hbr⟩ := b2.hr.blk _ _ hl
   obtain ⟨e3, rfl, he3, c1, c2⟩ := loop_inv hbr
   rw [hs2] at hy2
   obtain ⟨st', p', hk⟩ := b2.loops h.next 0 none e' ps a b (by rw [Heap.get_new, if_pos rfl])
   rw [hk] at hy2
   cases hy2
   have hset := set_out (b := g.next) (x := .loop 3 (pendOf x) e ps a b) (x' := .loop 3 (pendOf x) e' ps a b) b2.hr (by rw [hl]; simp)
    (.loop he3 c1 c2) (by
     intro st p e5 ps5 a5 c5 hcc
     rw [hs2, hk] at hcc
     cases hcc
     exact ⟨_, _, rfl⟩)
   rw [hs2] at hset
   refine ⟨s2, F2, _, e', .rangeFunc hg' b1 hk hst hx, (o2.weaken hB).trans hr (hset.weaken (Nat.le_trans hB o2.next)), ?_⟩
   exact he.mono o2.agree o2.next o2.sub (fun c hc => by rw [hset.keepF b2.hr c (o2.sub c hc), o2.keepF hr c hc])
 | @frz B rd c e g i v v' bs r hev hf _ ih =>
  cases r with
  | code x e2 g2 =>
   intro hc hB s F h e' hr he
   have o1 := frz_out hr bs
   have he1 : ER s (delAll bs g).next (fun b => F b ∨ ∃ c, c ∈ bs ∧ g.get c ≠ none ∧ s c = b) h (Tr.set e i v') e' := by
    rw [delAll_next]
    intro t u hu
    rw [Tr.get_set] at hu
    split at hu
    ·rename_i ht
     subst ht
     cases hu
     exact frz_rel hf hr (fun _ hb => .inl hb) (fun b hb hn => .inr ⟨b, hb, hn, rfl⟩) (he t v hev)
    ·exact (he t u hu).mono (fun _ _ => rfl) (Nat.le_refl _) (fun _ hb => .inl hb) (fun _ _ => rfl)
   obtain ⟨s1, F1, h1, e1', a1, a2, a3⟩ := ih hc (by rw [delAll_next]; exact hB) s _ h e' o1.hr he1
   exact ⟨s1, F1, h1, e1', a1, (o1.weaken hB).trans hr a2, a3⟩
  | ops _ _ _ => exact ih.elim
  | val _ _ => exact ih.elim
  | pan _ _ => exact ih.elim
  | post _ => exact ih.elim
 | @drop B rd c e g e1 r hd _ ih =>
  cases r with
  | code x e2 g2 =>
   intro hc hB s F h e' hr he
   exact ih hc hB s F h e' hr (fun i v hv => he i v (hd i v hv))
  | ops _ _ _ => exact ih.elim
  | val _ _ => exact ih.elim
  | pan _ _ => exact ih.elim
  | post _ => exact ih.elim
 | @gc B rd c e g p e1 g1 r hgc _ ih =>
  cases r with
  | code x e2 g2 =>
   intro hc hB s F h e' hr he
   obtain ⟨o1, he1⟩ := gc_out hr he hgc
   obtain ⟨s1, F1, h1, e1', a1, a2, a3⟩ := ih hc hgc.next _ F h e' o1.hr he1
   exact ⟨s1, F1, h1, e1', a1, o1.trans hr a2, a3⟩
  | ops _ _ _ => exact ih.elim
  | val _ _ => exact ih.elim
  | pan _ _ => exact ih.elim
  | post _ => exact ih.elim
 | nil => intro _ s F h e' hr he; exact ⟨s, F, h, e', [], .nil, .refl hr (Nat.le_refl _), he, .nil hr⟩
 | @off B rd i l e g tr e1 g1 hw _ ih =>
  intro hc s F h e' hr he
  simp only [insC, Bool.and_eq_true] at hc
  obtain ⟨s1, F1, h1, e1', tr', a1, a2, a3, a4⟩ := ih hc.2 s F h (e'.put i.dst .undef) hr (he.put i.dst .undef)
  exact ⟨s1, F1, h1, e1', _, .off (wanted_sim he hw) a1, a2, a3, .cons hr he (.refl hr (Nat.le_refl _)) rfl rfl rfl rfl rfl (fun h => by simp at h) (fun _ => ⟨rfl, rfl⟩) a4⟩
 | @on B rd i l e g v g1 tr e1 g2 hw hj hop _ iho ihl =>
  intro hc s F h e' hr he
  simp only [insC, Bool.and_eq_true] at hc
  obtain ⟨s1, F1, h1, v', a1, a2, a3⟩ := iho hc.1.1 s F h _ hr (he.evs hc.1.2 hj)
  have he1 : ER s1 g1.next F1 h1 (e.put i.dst v) (e'.put i.dst v') := (he.mono a2.agree a2.next a2.sub (a2.keepF hr)).put i.dst a3
  obtain ⟨s2, F2, h2, e2', tr', b1, b2, b3, b4⟩ := ihl hc.2 s1 F1 h1 _ a2.hr he1
  refine ⟨s2, F2, h2, e2', _, .on (wanted_sim he hw) a1 b1, a2.trans hr (b2.weaken a2.next), b3, .cons hr he a2 rfl rfl rfl rfl rfl (fun _ => ⟨hj, he.evs hc.1.2 hj, a3, fun o ho => ?_, fun o ho => ?_⟩) (fun h => by simp at h) b4⟩
  rotate_left
  ·refine ⟨?_, ?_⟩
   ·rw [ho] at a1
    cases a1 with
    | opR hp => exact hp
   ·rw [ho] at hop
    cases hop with
    | opR hp => exact hp
  refine ⟨?_, ?_⟩
  ·rw [ho] at hop
   cases hop with
   | opP hp => exact hp
  ·rw [ho] at a1
   cases a1 with
   | opP hp => exact hp
 | opP hp =>
  intro hc s F h vals' hr q
  obtain ⟨v', a1, a2⟩ := pV_sim q hc hp
  exact ⟨s, F, h, v', .opP a1, .refl hr (Nat.le_refl _), a2⟩
 | @opA B rd o vals g x f hp =>
  intro hc s F h vals' hr q
  obtain ⟨x', a1, a2, a3⟩ := aI_sim hr q hc hp
  have o1 := new_out hr a2
  have hs0 : upd1 s g.next h.next g.next = h.next := by unfold upd1; rw [if_pos rfl]
  refine ⟨_, F, _, _, .opA a1, o1, ?_⟩
  have := a3 (s1 := upd1 s g.next h.next) (n1 := (g.new x).next) (F1 := F) (h1 := h.new x') (by simp)
  rw [hs0] at this
  exact this
 | opR hp =>
  intro hc s F h vals' hr q
  obtain ⟨v', a1, a2⟩ := rV_sim hr q hc hp
  exact ⟨s, F, h, v', .opR a1, .refl hr (Nat.le_refl _), a2⟩
 | opE hp =>
  intro hc s F h vals' hr q
  obtain ⟨s1, v', h1, a1, a2, a3⟩ := eV_sim hr q hc hp
  exact ⟨s1, F, h1, v', .opE a1, a2, a3⟩
 | opK hp =>
  intro hc s F h vals' hr q
  obtain ⟨s1, v', h1, a1, a2, a3⟩ := eKV_sim hr q hp
  exact ⟨s1, F, h1, v', .opK a1, a2, a3⟩
 | opCall _ ih =>
  intro hc s F h vals' hr q
  obtain ⟨fv', args', rfl, q1, q2⟩ := q.cons_inv
  obtain ⟨s1, F1, h1, v', a1, a2, a3⟩ := ih s F h fv' args' hr q1 q2
  exact ⟨s1, F1, h1, v', .opCall a1, a2, a3⟩
 | opInvoke hm _ ih =>
  intro hc s F h vals' hr q
  obtain ⟨y, args', rfl, q1, q2⟩ := q.cons_inv
  cases q1 with
  | iface q1 =>
   obtain ⟨s1, F1, h1, v', a1, a2, a3⟩ := ih s F h _ hr (.cons q1 q2)
   exact ⟨s1, F1, h1, v', .opInvoke hm a1, a2, a3⟩
 | callv _ ih =>
  intro s F h fv' args' hr q1 q2
  cases q1 with
  | func f1 f2 f3 f4 =>
   obtain ⟨s1, F1, h1, v', a1, a2, a3⟩ := ih s F h _ hr (RelL.append ⟨f1, f2⟩ (q2.append ⟨f3, f4⟩))
   exact ⟨s1, F1, h1, v', .callv a1, a2, a3⟩
 | @yield B L args g pend e ps a b e2 g2 pend2 x e4 g4 st4 pend4 hg hlen _ hg2 _ hx hg4 iha ihb =>
  intro s F h fv' args' hr q1 q2
  cases q1 with
  | yield hL =>
   obtain ⟨y, hy, hbr⟩ := hr.blk _ _ hg
   obtain ⟨e', rfl, he, c1, c2⟩ := loop_inv hbr
   obtain ⟨s1, F1, h1, e2', a1, a2, a3⟩ := iha c1 (Nat.le_refl _) s F h _ hr (he.putAll (ps := ps) q2)
   have hs1 : s1 L = s L := a2.agree L hL
   obtain ⟨y2, hy2, hbr2⟩ := a2.hr.blk _ _ hg2
   obtain ⟨e5, rfl, he5, _, _⟩ := loop_inv hbr2
   obtain ⟨st', p', hk⟩ := a2.loops _ _ _ _ _ _ _ hy
   rw [hs1] at hy2
   rw [hk] at hy2
   cases hy2
   have hset := set_out (b := L) (x := .loop 1 pend2 e ps a b) (x' := .loop 1 pend2 e' ps a b) a2.hr (by rw [hg2]; simp) (.loop he5 c1 c2) (by
    intro st p e6 ps6 a6 c6 hcc
    rw [hs1, hk] at hcc
    cases hcc
    exact ⟨_, _, rfl⟩)
   rw [hs1] at hset
   have ha3 : ER s1 (g2.set L (.loop 1 pend2 e ps a b)).next F1 (h1.set (s L) (.loop 1 pend2 e' ps a b)) e2 e2' := a3.mono (fun _ _ => rfl) (Nat.le_refl _) (fun _ => id) (hset.keepF a2.hr)
   obtain ⟨s2, F2, h2, e4', b1, b2, b3⟩ := ihb c2 (Nat.le_trans a2.next (by simp)) s1 F1 _ e2' hset.hr ha3
   have o3 := (a2.trans hr (hset.weaken a2.next)).trans hr b2
   have hs2 : s2 L = s L := o3.agree L hL
   obtain ⟨y4, hy4, hbr4⟩ := b2.hr.blk _ _ hg4
   obtain ⟨e7, rfl, he7, _, _⟩ := loop_inv hbr4
   obtain ⟨st'', p'', hk2⟩ := o3.loops _ _ _ _ _ _ _ hy
   rw [hs2, hk2] at hy4
   cases hy4
   have hset2 := set_out (b := L) (x := .loop (bif x.normal? then 0 else 2) (pendOf x) e ps a b) (x' := .loop (bif x.normal? then 0 else 2) (pendOf x) e' ps a b) b2.hr (by rw [hg4]; simp) (.loop he7 c1 c2) (by
    intro st p e6 ps6 a6 c6 hcc
    rw [hs2, hk2] at hcc
    cases hcc
    exact ⟨_, _, rfl⟩)
   rw [hs2] at hset2
   exact ⟨s2, F2, _, _, .yield hy (by rw [← q2.1]; exact hlen) a1 hk b1 hx hk2, o3.trans hr (hset2.weaken b2.next), .bool⟩
 | @call B f args g af x e1 g1 vs hf hlen _ hx hres ih =>
  intro s F h args' hr q
  obtain ⟨s1, F1, h1, e1', a1, a2, a3⟩ := ih (hfs f af hf) (Nat.le_refl _) s F h _ hr (ER.start af.ntmps q)
  obtain ⟨vs', b1, b2⟩ := resAll_sim a2.hr a3 hres
  exact ⟨s1, F1, h1, _, .call hf (by rw [← q.1]; exact hlen) a1 hx b1, a2, resVal_sim b2⟩
 | @rangeFuncP B gg ps a b e g f first capt v g2 hao hev _ ih =>
  intro hc hB s F h e' hr he
  simp only [codeC, Bool.and_eq_true] at hc
  have hg := he.ev hc.1.1 hao
  rw [hev] at hg
  generalize hg' : e'.ev gg = fv at hg
  cases hg with
  | @func _ _ first' _ capt' f1 f2 f3 f4 =>
   have o1 := new_out (x := .loop 0 none e ps a b) (x' := .loop 0 none e' ps a b) hr (.loop he hc.1.2 hc.2)
   have hs0 : upd1 s g.next h.next g.next = h.next := by unfold upd1; rw [if_pos rfl]
   have hm : ∀ {l l' : List AV}, RelL s g.next F h l l' → RelL (upd1 s g.next h.next) (g.new (.loop 0 none e ps a b)).next F (h.new (.loop 0 none e' ps a b)) l l' :=
    fun q => q.mono o1.agree o1.next (fun _ => id) (o1.keepF hr)
   have hy : Rel (upd1 s g.next h.next) (g.new (.loop 0 none e ps a b)).next F (h.new (.loop 0 none e' ps a b)) (.yield g.next) (.yield h.next) := by
    have := Rel.yield (s := upd1 s g.next h.next) (n := (g.new (.loop 0 none e ps a b)).next) (F := F) (h := h.new (.loop 0 none e' ps a b)) (b := g.next) (by simp)
    rw [hs0] at this
    exact this
   obtain ⟨s2, F2, h2, b1, b2⟩ := ih _ F _ _ o1.hr ((hm ⟨f1, f2⟩).append (.cons hy (hm ⟨f3, f4⟩)))
   have o2 := o1.trans hr (b2.weaken (by simp))
   exact ⟨s2, F2, h2, e', .rangeFuncP hg' b1, o2.weaken hB, he.mono o2.agree o2.next o2.sub (o2.keepF hr)⟩
 | @yieldP B L args g pend e ps a id A l1 i l2 e2 g2 pend2 e3 g3 tr e4 g4 v g5 hg hlen _ hna hg2 hnA _ _ hw hj _ iha ihA ihl iho =>
  intro s F h fv' args' hr q1 q2
  cases q1 with
  | yield hL =>
   obtain ⟨y, hy, hbr⟩ := hr.blk _ _ hg
   obtain ⟨e', rfl, he, c1, c2⟩ := loop_inv hbr
   have c2' := c2
   simp only [codeC, Bool.and_eq_true] at c2
   have hc' : insC (l1 ++ i :: l2) = true := c2.2
   rw [insC_app, Bool.and_eq_true] at hc'
   simp only [insC, Bool.and_eq_true] at hc'
   obtain ⟨s1, F1, h1, e2', a1, a2, a3⟩ := iha c1 (Nat.le_refl _) s F h _ hr (he.putAll (ps := ps) q2)
   have hs1 : s1 L = s L := a2.agree L hL
   obtain ⟨y2, hy2, hbr2⟩ := a2.hr.blk _ _ hg2
   obtain ⟨e5, rfl, he5, _, _⟩ := loop_inv hbr2
   obtain ⟨st', p', hk⟩ := a2.loops _ _ _ _ _ _ _ hy
   rw [hs1] at hy2
   rw [hk] at hy2
   cases hy2
   have hset := set_out (b := L) (x := .loop 1 pend2 e ps a (.block id (.seq A (.ops (l1 ++ i :: l2))))) (x' := .loop 1 pend2 e' ps a (.block id (.seq A (.ops (l1 ++ i :: l2))))) a2.hr (by rw [hg2]; simp) (.loop he5 c1 c2') (by
    intro st p e6 ps6 a6 c6 hcc
    rw [hs1, hk] at hcc
    cases hcc
    exact ⟨_, _, rfl⟩)
   rw [hs1] at hset
   have ha3 : ER s1 (g2.set L (.loop 1 pend2 e ps a (.block id (.seq A (.ops (l1 ++ i :: l2)))))).next F1 (h1.set (s L) (.loop 1 pend2 e' ps a (.block id (.seq A (.ops (l1 ++ i :: l2)))))) e2 e2' := a3.mono (fun _ _ => rfl) (Nat.le_refl _) (fun _ hb => hb) (hset.keepF a2.hr)
   obtain ⟨s2, F2, h2, e3', b1, b2, b3⟩ := ihA c2.1 (Nat.le_trans a2.next (by simp)) s1 F1 _ e2' hset.hr ha3
   have o3 := (a2.trans hr (hset.weaken a2.next)).trans hr b2
   obtain ⟨s3, F3, h3, e4', tr', d1, d2, d3, _⟩ := ihl hc'.1 s2 F2 h2 e3' b2.hr b3
   have o4 := o3.trans hr (d2.weaken b2.next)
   obtain ⟨s4, F4, h4, f1, f2⟩ := iho hc'.2.1.1 s3 F3 h3 _ d2.hr (d3.evs hc'.2.1.2 hj)
   exact ⟨s4, F4, h4, .yieldP hy (by rw [← q2.1]; exact hlen) a1 hna hk hnA b1 d1 (wanted_sim d3 hw) f1, o4.trans hr (f2.weaken o4.next)⟩
 | @opsP B rd l1 i l2 e g tr e1 g1 v g2 _ hw hj _ ihl iho =>
  intro hc hB s F h e' hr he
  have hc' : insC (l1 ++ i :: l2) = true := hc
  rw [insC_app, Bool.and_eq_true] at hc'
  simp only [insC, Bool.and_eq_true] at hc'
  obtain ⟨s1, F1, h1, e1', tr', a1, a2, a3, _⟩ := ihl hc'.1 s F h e' hr he
  obtain ⟨s2, F2, h2, b1, b2⟩ := iho hc'.2.1.1 s1 F1 h1 _ a2.hr (a3.evs hc'.2.1.2 hj)
  exact ⟨s2, F2, h2, e1', .opsP a1 (wanted_sim a3 hw) b1, (a2.trans hr (b2.weaken a2.next)).weaken hB, a3.mono b2.agree b2.next b2.sub (b2.keepF a2.hr)⟩
 | @dopsP B rd l1 i win e g tr e1 g1 v g2 _ hwin hlast heff hw hj _ ihl iho =>
  intro hc hB s F h e' hr he
  have hc' : insC (l1 ++ [i]) = true := hc
  rw [insC_app, Bool.and_eq_true] at hc'
  simp only [insC, Bool.and_eq_true] at hc'
  obtain ⟨s1, F1, h1, e1', tr', a1, a2, a3, a4⟩ := ihl hc'.1 s F h e' hr he
  obtain ⟨s2, F2, h2, b1, b2⟩ := iho hc'.2.1.1 s1 F1 h1 _ a2.hr (a3.evs hc'.2.1.2 hj)
  have hreg : regionOk l1 (win.take l1.length) tr' h1 := by
   rcases hwin with hwin | hwin
   ·refine readsOk_none' ?_
    rw [List.all_eq_true] at hwin ⊢
    exact fun x hx => hwin x (List.mem_of_mem_take hx)
   ·exact win_sound hc'.1 a4 hwin
  exact ⟨s2, F2, h2, e1', .dopsP a1 hreg hlast heff (wanted_sim a3 hw) b1, (a2.trans hr (b2.weaken a2.next)).weaken hB, a3.mono b2.agree b2.next b2.sub (b2.keepF a2.hr)⟩
 | @opPanic B rd t x g hp =>
  intro hc s F h vals' hr q
  have := q.pl_eq (l := [.iface t x]) (by simp [plL, AV.pl, hp])
  subst this
  exact ⟨s, F, h, .opPanic, .refl hr (Nat.le_refl _)⟩
 | opCallP _ ih =>
  intro hc s F h vals' hr q
  obtain ⟨fv', args', rfl, q1, q2⟩ := q.cons_inv
  obtain ⟨s1, F1, h1, a1, a2⟩ := ih s F h fv' args' hr q1 q2
  exact ⟨s1, F1, h1, .opCallP a1, a2⟩
 | opInvokeP hm _ ih =>
  intro hc s F h vals' hr q
  obtain ⟨y, args', rfl, q1, q2⟩ := q.cons_inv
  cases q1 with
  | iface q1 =>
   obtain ⟨s1, F1, h1, a1, a2⟩ := ih s F h _ hr (.cons q1 q2)
   exact ⟨s1, F1, h1, .opInvokeP hm a1, a2⟩
 | callvP _ ih =>
  intro s F h fv' args' hr q1 q2
  cases q1 with
  | func f1 f2 f3 f4 =>
   obtain ⟨s1, F1, h1, a1, a2⟩ := ih s F h _ hr (RelL.append ⟨f1, f2⟩ (q2.append ⟨f3, f4⟩))
   exact ⟨s1, F1, h1, .callvP a1, a2⟩
 | @callP B f args g af v e1 g1 hf hlen _ ih =>
  intro s F h args' hr q
  obtain ⟨s1, F1, h1, e1', a1, a2, a3⟩ := ih (hfs f af hf) (Nat.le_refl _) s F h _ hr (ER.start af.ntmps q)
  exact ⟨s1, F1, h1, .callP hf (by rw [← q.1]; exact hlen) a1, a2⟩
 | @callD B f args g af A l1 dst r rest e1 g1 tr e2 g2 gf first capt x e3 g3 ag t l2 rest2 tr2 e4 y e5 g5 vs hf hlen hfb _ hnA _ hj hev _ hx hxp hg hglen hbody hgres hnr _ hpl _ hy hres ihA ihl ihr ihp ihc =>
  intro s F h args' hr q
  have hcf := hfs f af hf
  rw [hfb] at hcf
  simp only [codeC, Bool.and_eq_true] at hcf
  obtain ⟨hcA, hcD, hcR⟩ := hcf
  rw [insC_app, Bool.and_eq_true] at hcD
  have hcr : randsC [r] = true := by
   have := hcD.2
   simp only [insC, dferI, randsC, Bool.and_eq_true] at this
   simp only [randsC, Bool.and_true]
   exact this.1.2.2.1
  have hcg := hfs gf ag hg
  rw [hbody] at hcg
  simp only [codeC, insC, Bool.and_eq_true] at hcg
  obtain ⟨s1, F1, h1, e1', a1, a2, a3⟩ := ihA hcA (Nat.le_refl _) s F h _ hr (ER.start af.ntmps q)
  obtain ⟨s2, F2, h2, e2', tr', b1, b2, b3, _⟩ := ihl hcD.1 s1 F1 h1 e1' a2.hr a3
  have o12 := a2.trans hr (b2.weaken a2.next)
  have hfr := (b3.evs hcr hj).2 0 _ _ rfl rfl
  rw [hev] at hfr
  obtain ⟨s3, F3, h3, e3', c1, c2, c3⟩ := ihr hcR (Nat.le_refl _) s2 F2 h2 _ b2.hr (b3.put dst .undef)
  have o23 := o12.trans hr (c2.weaken o12.next)
  generalize hw : e2'.ev r = fw at hfr
  cases hfr with
  | func f1 f2 f3 f4 =>
   rename_i first' capt'
   have hargs0 : RelL s2 g2.next F2 h2 (first ++ capt) (first' ++ capt') := RelL.append ⟨f1, f2⟩ ⟨f3, f4⟩
   have hargs : RelL s3 g3.next F3 h3 (first ++ capt) (first' ++ capt') := ⟨hargs0.1, fun i x y hx hy => (hargs0.2 i x y hx hy).mono c2.agree c2.next c2.sub (c2.keepF b2.hr)⟩
   have hstart : ER s3 g3.next F3 h3 ((Env.start ag.ntmps (first ++ capt)).put (some t) (recV x)) ((Env.start ag.ntmps (first' ++ capt')).put (some t) (recV x)) := (ER.start ag.ntmps hargs).put (some t) (.pl_self hxp)
   obtain ⟨s4, F4, h4, e4', tr2', d1, d2, d3, _⟩ := ihp hcg.1.2 s3 F3 h3 _ c2.hr hstart
   have hh := plain_heap hpl d1
   subst hh
   obtain ⟨s5, F5, h5, e5', m1, m2, m3⟩ := ihc hcg.2 (Nat.le_refl _) s4 F4 h4 e4' d2.hr d3
   have o34 := d2.trans c2.hr (m2.weaken d2.next)
   have hall := o23.trans hr (o34.weaken o23.next)
   have e35 : ER s5 g5.next F5 h5 e3 e3' := c3.mono o34.agree o34.next o34.sub (o34.keepF c2.hr)
   obtain ⟨vs', p1, p2⟩ := resAll_sim m2.hr e35 hres
   exact ⟨s5, F5, h5, _, .callD hf (by rw [← q.1]; exact hlen) hfb a1 hnA b1 hw c1 hx hg (by rw [← hargs0.1]; exact hglen) hbody hgres hnr d1 hpl m1 hy p1, hall, resVal_sim p2⟩
 | @pure B f args g v g1 v' _ hcl hfz hcl' ih =>
  intro s F h args' hr q
  have q0 : RelL s 0 F h args args' := q.clean hcl
  obtain ⟨s1, F1, h1, w, a1, a2, a3⟩ := ih s F h args' (empty_hr hr) q0
  have hrel : Rel s1 g1.next (fun b => F1 b ∨ ∃ c, g1.get c ≠ none ∧ s1 c = b) h1 v' w := frz_rel hfz a2.hr (fun _ hb => .inl hb) (fun b _ hn => .inr ⟨b, hn, rfl⟩) a3
  have hnew : ∀ b, (F1 b ∨ ∃ c, g1.get c ≠ none ∧ s1 c = b) → b < h.next → F b := by
   rintro b (hb | ⟨c, hc, rfl⟩) hlt
   ·rcases a2.new b hb hlt with hf | ⟨c, hc, _⟩
    ·exact hf
    ·exact absurd rfl hc
   ·rcases a2.fresh c (Nat.zero_le _) hc with h1 | ⟨c0, h1, _⟩
    ·omega
    ·exact absurd rfl h1
  have hprot : ∀ b, b < h.next → h1.get b = h.get b := fun b hb => a2.prot b hb (fun c hc => absurd rfl hc)
  refine ⟨s, fun b => F b ∨ (h.next ≤ b ∧ (F1 b ∨ ∃ c, g1.get c ≠ none ∧ s1 c = b)), h1, w, a1, ?_, ?_⟩
  ·refine ⟨⟨hr.top, a2.hr.htop, ?_, ?_, hr.inj, ?_⟩, Nat.le_refl _, a2.hnext, fun _ _ => rfl, fun b hb => .inl hb, ?_, fun b hb _ => hprot b hb, fun c hc hn => .inr ⟨c, hn, rfl⟩, fun c _ hn => hn, ?_⟩
   ·rintro b (hb | ⟨_, hb | ⟨c, hc, rfl⟩⟩)
    ·exact Nat.lt_of_lt_of_le (hr.ftop b hb) a2.hnext
    ·exact a2.hr.ftop b hb
    ·exact a2.hr.slt hc
   ·intro b x hx
    obtain ⟨y, hy, hbr⟩ := hr.blk b x hx
    have hlt := hr.slt (b := b) (by rw [hx]; simp)
    exact ⟨y, by rw [hprot _ hlt]; exact hy, hbr.mono (fun _ _ => rfl) (Nat.le_refl _) (fun _ hb => .inl hb) (fun c hc => hprot c (hr.ftop c hc))⟩
   ·rintro b hb (hf | ⟨hle, _⟩)
    ·exact hr.own b hb hf
    ·have := hr.slt hb; omega
   ·rintro b (hb | ⟨hle, _⟩) hlt
    ·exact .inl hb
    ·omega
   ·intro b st p e ps a c hb
    exact a2.loops b st p e ps a c hb
  ·refine (hrel.clean (s' := s) (n' := g.next) hcl').mono (fun _ _ => rfl) (Nat.le_refl _) ?_ (fun _ _ => rfl)
   intro b hb
   by_cases hlt : b < h.next
   ·exact .inl (hnew b hb hlt)
   ·exact .inr ⟨by omega, hb⟩
 | @frzC B f args args1 g bs v g1 hfz _ ih =>
  intro s F h args' hr q
  have o1 := frz_out hr bs
  have q1 : RelL s (delAll bs g).next (fun b => F b ∨ ∃ c, c ∈ bs ∧ g.get c ≠ none ∧ s c = b) h args1 args' := by
   rw [delAll_next]
   refine ⟨by rw [← hfz.1]; exact q.1, fun i x y hx hy => ?_⟩
   have hl := (List.getElem?_eq_some_iff.1 hx).1
   have hz := List.getElem?_eq_getElem (l := args) (i := i) (by rw [hfz.1]; exact hl)
   exact frz_rel (hfz.2 i _ x hz hx) hr (fun _ hb => .inl hb) (fun b hb hn => .inr ⟨b, hb, hn, rfl⟩) (q.2 i _ y hz hy)
  obtain ⟨s1, F1, h1, w, a1, a2, a3⟩ := ih s _ h args' o1.hr q1
  rw [delAll_next] at a2
  exact ⟨s1, F1, h1, w, a1, o1.trans hr a2, a3⟩
 | @frzR B f args g bs v v' g1 _ hfz ih =>
  intro s F h args' hr q
  obtain ⟨s1, F1, h1, w, a1, a2, a3⟩ := ih s F h args' hr q
  have o1 := frz_out a2.hr bs
  refine ⟨s1, _, h1, w, a1, a2.trans hr (o1.weaken a2.next), ?_⟩
  rw [delAll_next]
  exact frz_rel hfz a2.hr (fun _ hb => .inl hb) (fun b hb hn => .inr ⟨b, hb, hn, rfl⟩) a3
 | @closed B f args g v h1 hb hpa hpv =>
  intro s F h args' hr q
  have ha := q.pl_eq hpa
  subst ha
  exact ⟨s, F, h, v, .fresh hb (plL_allD hpa) (pl_inD hpv), .refl hr (Nat.le_refl _), .pl_self hpv⟩
 | @view B f args args1 g v g1 hfz hcl _ hpl ih =>
  intro s F h args' hr q
  have q1 : RelL s g.next (fun b => b < h.next) h args1 args' := by
   refine ⟨by rw [← hfz.1]; exact q.1, fun i x y hx hy => ?_⟩
   have hl := (List.getElem?_eq_some_iff.1 hx).1
   have hz := List.getElem?_eq_getElem (l := args) (i := i) (by rw [hfz.1]; exact hl)
   exact frz_rel (hfz.2 i _ x hz hx) hr (fun b hb => hr.ftop b hb) (fun b _ hn => hr.slt hn) (q.2 i _ y hz hy)
  have q0 := RelL.clean (s' := s) (n' := 0) q1 hcl
  have hr0 : HR s (fun b => b < h.next) ⟨0, .nil⟩ h := by
   refine ⟨fun b _ => rfl, hr.htop, fun b hb => hb, fun b x hx => ?_, fun b c hb => absurd rfl hb, fun b hb => absurd rfl hb⟩
   have : (none : Option Blk) = some x := hx
   simp at this
  obtain ⟨s1, F1, h1, w, a1, a2, a3⟩ := ih s (fun b => b < h.next) h args' hr0 q0
  have hprot : ∀ b, b < h.next → h1.get b = h.get b := fun b hb => a2.prot b hb (fun c hc => absurd rfl hc)
  have hw := a3.pl_eq hpl
  subst hw
  refine ⟨s, F, h1, _, a1, ?_, .pl_self hpl⟩
  refine ⟨⟨hr.top, a2.hr.htop, fun b hb => Nat.lt_of_lt_of_le (hr.ftop b hb) a2.hnext, ?_, hr.inj, hr.own⟩, Nat.le_refl _, a2.hnext, fun _ _ => rfl, fun b hb => hb, fun b hb _ => .inl hb, fun b hb _ => hprot b hb, fun c hc hn => .inr ⟨c, hn, rfl⟩, fun c _ hn => hn, ?_⟩
  ·intro b x hx
   obtain ⟨y, hy, hbr⟩ := hr.blk b x hx
   have hlt := hr.slt (b := b) (by rw [hx]; simp)
   exact ⟨y, by rw [hprot _ hlt]; exact hy, hbr.mono (fun _ _ => rfl) (Nat.le_refl _) (fun _ hb => hb) (fun c hc => hprot c (hr.ftop c hc))⟩
  ·intro b st p e ps a c hb
   exact a2.loops b st p e ps a c hb
 | @viewN B f args args1 g g1 b0 o len cap op vs wr es hfz hcl _ hg0 hpl ih =>
  intro s F h args' hr q
  have q1 : RelL s g.next (fun b => b < h.next) h args1 args' := by
   refine ⟨by rw [← hfz.1]; exact q.1, fun i x y hx hy => ?_⟩
   have hl := (List.getElem?_eq_some_iff.1 hx).1
   have hz := List.getElem?_eq_getElem (l := args) (i := i) (by rw [hfz.1]; exact hl)
   exact frz_rel (hfz.2 i _ x hz hx) hr (fun b hb => hr.ftop b hb) (fun b _ hn => hr.slt hn) (q.2 i _ y hz hy)
  have q0 := RelL.clean (s' := s) (n' := 0) q1 hcl
  have hr0 : HR s (fun b => b < h.next) ⟨0, .nil⟩ h := by
   refine ⟨fun b _ => rfl, hr.htop, fun b hb => hb, fun b x hx => ?_, fun b c hb => absurd rfl hb, fun b hb => absurd rfl hb⟩
   have : (none : Option Blk) = some x := hx
   simp at this
  obtain ⟨s1, F1, h1, w, a1, a2, a3⟩ := ih s (fun b => b < h.next) h args' hr0 q0
  have hprot : ∀ b, b < h.next → h1.get b = h.get b := fun b hb => a2.prot b hb (fun c hc => absurd rfl hc)
  have hfr : h.next ≤ s1 b0 := by
   rcases a2.fresh b0 (Nat.zero_le _) (by rw [hg0]; simp) with h2 | ⟨c0, h2, _⟩
   ·exact h2
   ·exact absurd rfl h2
  obtain ⟨y0, hy0, hbr0⟩ := a2.hr.blk b0 _ hg0
  have hs : ∀ b, b < g.next → (if b = g.next then s1 b0 else s b) = s b := fun b hb => if_neg (by omega)
  refine ⟨fun b => if b = g.next then s1 b0 else s b, F, h1, _, a1, ?_, ?_⟩
  ·refine ⟨⟨?_, a2.hr.htop, fun b hb => Nat.lt_of_lt_of_le (hr.ftop b hb) a2.hnext, ?_, ?_, ?_⟩, by simp, a2.hnext, hs, fun b hb => hb, fun b hb _ => .inl hb, fun b hb _ => hprot b hb, ?_, ?_, ?_⟩
   ·intro b hb
    simp only [Heap.next_new] at hb
    rw [Heap.get_new, if_neg (by omega)]
    exact hr.top b (by omega)
   ·intro b x hx
    rw [Heap.get_new] at hx
    by_cases hbn : b = g.next
    ·rw [if_pos hbn] at hx
     cases hx
     simp only [if_pos hbn]
     refine ⟨y0, hy0, ?_⟩
     cases hbr0 with
     | cells r hw =>
      refine .cells ⟨r.1, fun i x y hx hy => ?_⟩ hw
      have hxp := plL_get hpl hx
      have := (r.2 i x y hx hy).pl_eq hxp
      subst this
      exact .pl_self hxp
    ·rw [if_neg hbn] at hx
     simp only [if_neg hbn]
     obtain ⟨y, hy, hbr⟩ := hr.blk b x hx
     have hlt := hr.slt (b := b) (by rw [hx]; simp)
     exact ⟨y, by rw [hprot _ hlt]; exact hy, hbr.mono hs (by simp) (fun _ hb => hb) (fun c hc => hprot c (hr.ftop c hc))⟩
   ·intro b c hb hc he
    rw [Heap.get_new] at hb hc
    by_cases h2 : b = g.next <;> by_cases h3 : c = g.next
    ·rw [h2, h3]
    ·rw [if_neg h3] at hc
     simp only [if_pos h2, if_neg h3] at he
     have := hr.slt hc
     omega
    ·rw [if_neg h2] at hb
     simp only [if_pos h3, if_neg h2] at he
     have := hr.slt hb
     omega
    ·rw [if_neg h2] at hb
     rw [if_neg h3] at hc
     simp only [if_neg h2, if_neg h3] at he
     exact hr.inj b c hb hc he
   ·intro b hb hF
    rw [Heap.get_new] at hb
    by_cases h2 : b = g.next
    ·simp only [if_pos h2] at hF
     have := hr.ftop _ hF
     omega
    ·rw [if_neg h2] at hb
     simp only [if_neg h2] at hF
     exact hr.own b hb hF
   ·intro c hc hn
    rw [Heap.get_new] at hn
    by_cases h2 : c = g.next
    ·simp only [if_pos h2]
     exact .inl hfr
    ·rw [if_neg h2] at hn
     exact absurd (hr.top c hc) hn
   ·intro c hc hn
    rw [Heap.get_new, if_neg (by omega)] at hn
    exact hn
   ·intro b st p e ps a c hb
    exact a2.loops b st p e ps a c hb
  ·cases a3 with
   | sl hlt =>
    have := Rel.sl (s := fun b => if b = g.next then s1 b0 else s b) (n := (g.new (.cells vs wr es)).next) (F := F) (h := h1) (b := g.next) (o := o) (len := len) (cap := cap) (op := op) (by simp)
    simpa using this
end
end Ads
end Go.Proofs.Ytlndlbngfgaoeaa
