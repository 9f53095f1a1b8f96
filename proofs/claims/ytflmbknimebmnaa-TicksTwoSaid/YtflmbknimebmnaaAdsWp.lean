/-
  What code must come to, as a proposition that is worked out from the code: for functions whose arguments are not known.
-/
import Derived.Test.YtflmbknimebmnaaAdsTab
import Derived.Test.YtflmbknimebmnaaAdsEvalD
set_option linter.unusedSimpArgs false
set_option linter.unusedVariables false
namespace Go.Proofs.Ytflmbknimebmnaa
namespace Ads

def fLC {α : Type} : List AV → (List AV → α) → α
  | [], k => k []
  | v :: vs, k => fC v fun v => fLC vs fun vs => k (v :: vs)
theorem fLC_eq {α : Type} : ∀ (l : List AV) (k : List AV → α), fLC l k = k l
  | [], k => rfl
  | v :: vs, k => by simp [fLC, fC_eq, fLC_eq vs]

section
variable (fs : Nat → Option AFunc) (ms : Nat → String → Option Nat) (rd : Bool)

abbrev brn (t : Bool) (A B : Prop) : Prop := @Bool.rec (fun _ => Prop) B A t
/-- Code comes to something of which Q holds. -/
def Comes (c : AC) (e : Env) (h : Heap) (Q : AX → Env → Heap → Prop) : Prop := ∃ x e' h', BS fs ms (.code rd c e h) (.code x e' h') ∧ Q x e' h'
def ComesOps (l : List Ins) (e : Env) (h : Heap) (Q : Env → Heap → Prop) : Prop := ∃ tr e' h', BS fs ms (.ops rd l e h) (.ops tr e' h') ∧ Q e' h'
/-- A call comes to something of which Q holds. -/
def Calld (f : Nat) (args : List AV) (h : Heap) (Q : AV → Heap → Prop) : Prop := ∃ v h', BS fs ms (.call f args h) (.val v h') ∧ Q v h'

/-- Does the operation work out whatever its arguments are? -/
def sureOp (o : POp) (vals : List AV) : Bool :=
  match o with
  | .bin op => match vals with
    | .str _ :: _ => match op with
      | .add => false
      | _ => true
    | _ => match op with
      | .quo | .rem | .shl | .shr => false
      | _ => true
  | .iaddrS _ | .iaddrA _ _ | .idxA _ _ _ | .idxS | .slice _ _ _ _ | .sliceStr _ _ | .sliceArr _ _ _ _ _ => false
  | _ => true

def wpOp (o : IOp) (vals : List AV) (h : Heap) (k : AV → Heap → Prop) : Prop :=
  match o with
  | .p .pick => match vals with
    | [.bool c, a, b] => brn c (fC a fun v => k v h) (fC b fun v => k v h)
    | _ => False
  | .p o => match sureOp o vals with
    | true => match pIF o vals with
      | some v => fC v fun v => k v h
      | none => False
    | false => ∃ v, pIF o vals = some v ∧ fC v fun v => k v h
  | .a o => match aIF o vals with
    | some (x, f) => k (f h.next) (h.new x)
    | none => False
  | .r o => ∃ v, rI o vals h = some v ∧ k v h
  | .e o => ∃ v h1, eI o vals h = some (v, h1) ∧ k v h1
  | .call => match vals with
    | .func (.func f) first capt :: args => Calld fs ms f (first ++ (args ++ capt)) h k
    | fv :: args => ∃ v h1, BS fs ms (.callv fv args h) (.val v h1) ∧ k v h1
    | [] => False
  | .invoke name => match vals with
    | .iface t x :: args => match ms t name with
      | some f => Calld fs ms f (x :: args) h k
      | none => False
    | _ => False
  | _ => False

def wpO : List Ins → Env → Heap → (Env → Heap → Prop) → Prop
  | [], e, h, k => k e h
  | i :: l, e, h, k => match i.guard with
    | none => fLC (i.args.map e.ev) fun vals => wpOp fs ms i.op vals h fun v h1 => putE e i.dst v fun e1 => wpO l e1 h1 k
    | some (d, want) => match e.get d with
      | .bool b => match want with
        | true => brn b (fLC (i.args.map e.ev) fun vals => wpOp fs ms i.op vals h fun v h1 => putE e i.dst v fun e1 => wpO l e1 h1 k) (putE e i.dst .undef fun e1 => wpO l e1 h k)
        | false => brn b (putE e i.dst .undef fun e1 => wpO l e1 h k) (fLC (i.args.map e.ev) fun vals => wpOp fs ms i.op vals h fun v h1 => putE e i.dst v fun e1 => wpO l e1 h1 k)
      | _ => putE e i.dst .undef fun e1 => wpO l e1 h k

def wpC : AC → Env → Heap → (AX → Env → Heap → Prop) → Prop
  | .skip, e, h, k => k .normal e h
  | .ops l, e, h, k => wpO fs ms l e h fun e h => k .normal e h
  | .dops l win, e, h, k => match win.all (·.isEmpty) with
    | true => wpO fs ms l e h fun e h => k .normal e h
    | false => ∃ tr e' h', BS fs ms (.ops rd l e h) (.ops tr e' h') ∧ regionOk l win tr h' ∧ k .normal e' h'
  | .seq a b, e, h, k => wpC a e h fun x e1 h1 => match x with
    | .normal => wpC b e1 h1 k
    | x => k x e1 h1
  | .cond c a b, e, h, k => match e.ev c with
    | .bool t => brn t (wpC a e h k) (wpC b e h k)
    | _ => False
  | .block id c, e, h, k => wpC c e h fun x e1 h1 => match x with
    | .exit i => match Nat.beq i id with
      | true => k .normal e1 h1
      | false => k (.exit i) e1 h1
    | x => k x e1 h1
  | .loop c, e, h, k => Comes fs ms rd (.loop c) e h k
  | .rangeFunc f ps a b, e, h, k => Comes fs ms rd (.rangeFunc f ps a b) e h k
  | .exit id, e, h, k => k (.exit id) e h
  | .ret, e, h, k => k .ret e h
  | .bad, _, _, _ => False

end

section
variable {fs : Nat → Option AFunc} {ms : Nat → String → Option Nat} {rd : Bool}

theorem wpOp_sound {o : IOp} {vals : List AV} {h : Heap} {k : AV → Heap → Prop} (hw : wpOp fs ms o vals h k) : ∃ v h1, BS fs ms (.op rd o vals h) (.val v h1) ∧ k v h1 := by
  unfold wpOp at hw
  split at hw
  · split at hw
    · rename_i c a b
      cases c with
      | true => exact ⟨_, _, .opP (v := a) rfl, by rw [← fC_eq a fun v => k v h]; exact hw⟩
      | false => exact ⟨_, _, .opP (v := b) rfl, by rw [← fC_eq b fun v => k v h]; exact hw⟩
    · exact hw.elim
  · split at hw
    · split at hw
      · rename_i v hv; rw [pIF_eq] at hv; rw [fC_eq] at hw; exact ⟨_, _, .opP hv, hw⟩
      · exact hw.elim
    · obtain ⟨v, hv, hw⟩ := hw; rw [pIF_eq] at hv; rw [fC_eq] at hw; exact ⟨_, _, .opP hv, hw⟩
  · split at hw
    · rename_i x f hv; rw [aIF_eq] at hv; exact ⟨_, _, .opA hv, hw⟩
    · exact hw.elim
  · obtain ⟨v, hv, hk⟩ := hw; exact ⟨_, _, .opR hv, hk⟩
  · obtain ⟨v, h1, hv, hk⟩ := hw; exact ⟨_, _, .opE hv, hk⟩
  · split at hw
    · obtain ⟨v, h1, hb, hk⟩ := hw; exact ⟨_, _, .opCall (.callv hb), hk⟩
    · obtain ⟨v, h1, hb, hk⟩ := hw; exact ⟨_, _, .opCall hb, hk⟩
    · exact hw.elim
  · split at hw
    · split at hw
      · rename_i f hf
        obtain ⟨v, h1, hb, hk⟩ := hw
        exact ⟨_, _, .opInvoke hf hb, hk⟩
      · exact hw.elim
    · exact hw.elim
  · exact hw.elim

theorem wpO_sound : ∀ {l : List Ins} {e : Env} {h : Heap} {k : Env → Heap → Prop}, wpO fs ms l e h k → ComesOps fs ms rd l e h k
  | [], e, h, k, hw => ⟨_, _, _, .nil, hw⟩
  | i :: l, e, h, k, hw => by
    unfold wpO at hw
    split at hw
    · rename_i hg
      rw [fLC_eq] at hw
      obtain ⟨v, h1, hb, hk⟩ := wpOp_sound (rd := rd) hw
      rw [putE_eq] at hk
      obtain ⟨tr, e', h', hl, hk⟩ := wpO_sound hk
      exact ⟨_, _, _, .on (by simp [wantedA, hg]) hb hl, hk⟩
    · rename_i d want hg
      split at hw
      · rename_i b hb
        have hon : b = want → (fLC (i.args.map e.ev) fun vals => wpOp fs ms i.op vals h fun v h1 => putE e i.dst v fun e1 => wpO fs ms l e1 h1 k) → ComesOps fs ms rd (i :: l) e h k := by
          intro hbw hw
          rw [fLC_eq] at hw
          obtain ⟨v, h1, hb', hk⟩ := wpOp_sound (rd := rd) hw
          rw [putE_eq] at hk
          obtain ⟨tr, e', h', hl, hk⟩ := wpO_sound hk
          exact ⟨_, _, _, .on (by simp [wantedA, hg, hb, hbw]) hb' hl, hk⟩
        have hoff : b = !want → (putE e i.dst .undef fun e1 => wpO fs ms l e1 h k) → ComesOps fs ms rd (i :: l) e h k := by
          intro hbw hk
          rw [putE_eq] at hk
          obtain ⟨tr, e', h', hl, hk⟩ := wpO_sound hk
          exact ⟨_, _, _, .off (by simp [wantedA, hg, hb, hbw]) hl, hk⟩
        cases want <;> cases b
        · exact hon rfl hw
        · exact hoff rfl hw
        · exact hoff rfl hw
        · exact hon rfl hw
      · rename_i hne
        rw [putE_eq] at hw
        obtain ⟨tr, e', h', hl, hk⟩ := wpO_sound hw
        refine ⟨_, _, _, .off ?_ hl, hk⟩
        unfold wantedA
        rw [hg]
        cases hv : e.get d with
        | bool b => exact absurd hv (hne b)
        | _ => simp only [hv]

theorem readsOk_none {u : Nat → Heap} : ∀ {l : List Ins} {win : List (List Nat)} {tr : List Mark1}, win.all (·.isEmpty) = true → readsOk u l win tr
  | [], _, _, _ => by simp [readsOk]
  | _ :: _, [], _, _ => by simp [readsOk]
  | _ :: _, _ :: _, [], _ => by simp [readsOk]
  | x :: l, cs :: win, m :: tr, h => by
    simp only [List.all_cons, Bool.and_eq_true] at h
    simp only [readsOk]
    refine ⟨?_, readsOk_none h.2⟩
    split
    · intro _ c hc
      rw [List.isEmpty_iff.1 h.1] at hc
      simp at hc
    · trivial

theorem wpC_sound : ∀ {c : AC} {e : Env} {h : Heap} {k : AX → Env → Heap → Prop}, wpC fs ms rd c e h k → Comes fs ms rd c e h k
  | .skip, e, h, k, hw => ⟨_, _, _, .skip, hw⟩
  | .ops l, e, h, k, hw => by
    obtain ⟨tr, e', h', hb, hk⟩ := wpO_sound (rd := rd) (show wpO fs ms l e h _ from hw)
    exact ⟨_, _, _, .ops hb, hk⟩
  | .dops l win, e, h, k, hw => by
    unfold wpC at hw
    split at hw
    · rename_i hwin
      obtain ⟨tr, e', h', hb, hk⟩ := wpO_sound (rd := rd) hw
      exact ⟨_, _, _, .dops hb (readsOk_none hwin), hk⟩
    · obtain ⟨tr, e', h', hb, hr, hk⟩ := hw
      exact ⟨_, _, _, .dops hb hr, hk⟩
  | .seq a b, e, h, k, hw => by
    obtain ⟨x, e1, h1, hb, hk⟩ := wpC_sound (show wpC fs ms rd a e h _ from hw)
    cases x with
    | normal =>
      obtain ⟨x2, e2, h2, hb2, hk2⟩ := wpC_sound (show wpC fs ms rd b e1 h1 k from hk)
      exact ⟨_, _, _, .seqN hb hb2, hk2⟩
    | exit i => exact ⟨_, _, _, .seqX hb rfl, hk⟩
    | ret => exact ⟨_, _, _, .seqX hb rfl, hk⟩
    | panic v => exact ⟨_, _, _, .seqX hb rfl, hk⟩
  | .cond c a b, e, h, k, hw => by
    unfold wpC at hw
    split at hw
    · rename_i t ht
      cases t with
      | true =>
        obtain ⟨x, e1, h1, hb, hk⟩ := wpC_sound (show wpC fs ms rd a e h k from hw)
        exact ⟨_, _, _, .cond ht hb, hk⟩
      | false =>
        obtain ⟨x, e1, h1, hb, hk⟩ := wpC_sound (show wpC fs ms rd b e h k from hw)
        exact ⟨_, _, _, .cond ht hb, hk⟩
    · exact hw.elim
  | .block id c, e, h, k, hw => by
    obtain ⟨x, e1, h1, hb, hk⟩ := wpC_sound (show wpC fs ms rd c e h _ from hw)
    cases x with
    | exit i =>
      simp only at hk
      split at hk
      · rename_i hbq
        have := Nat.eq_of_beq_eq_true hbq
        subst this
        exact ⟨_, _, _, .blockX hb, hk⟩
      · rename_i hbq
        refine ⟨_, _, _, .blockN hb ?_, hk⟩
        intro j hj hji
        simp only [AX.exit.injEq] at hj
        subst hj hji
        simp at hbq
    | normal => exact ⟨_, _, _, .blockN hb (by simp), hk⟩
    | ret => exact ⟨_, _, _, .blockN hb (by simp), hk⟩
    | panic v => exact ⟨_, _, _, .blockN hb (by simp), hk⟩
  | .loop c, e, h, k, hw => hw
  | .rangeFunc f ps a b, e, h, k, hw => hw
  | .exit id, e, h, k, hw => ⟨_, _, _, .exit, hw⟩
  | .ret, e, h, k, hw => ⟨_, _, _, .ret, hw⟩
  | .bad, e, h, k, hw => hw.elim

/-- A test that is not known. -/
theorem br {t : Bool} {A B : Prop} (h1 : t = true → A) (h2 : t = false → B) : @Bool.rec (fun _ => Prop) B A t := by
  cases t with
  | true => exact h1 rfl
  | false => exact h2 rfl

/-- How a call ends. -/
def endC (af : AFunc) (Q : AV → Heap → Prop) : AX → Env → Heap → Prop := fun x e h => match x with
  | .normal | .ret => match resAll e h af.results with
    | some vs => fLC vs fun vs => match vs with
      | [v] => Q v h
      | vs => Q (.tup vs) h
    | none => False
  | _ => False

theorem endQ {Q : AV → Heap → Prop} {vs : List AV} {h : Heap} (hk : fLC vs fun vs => match vs with
      | [v] => Q v h
      | vs => Q (.tup vs) h) : Q (resVal vs) h := by
  rw [fLC_eq] at hk
  rcases vs with _ | ⟨v, _ | ⟨u, r⟩⟩ <;> exact hk

/-- A call, by its body. -/
theorem calld {f : Nat} {af : AFunc} {args : List AV} {h : Heap} {Q : AV → Heap → Prop} (hf : fs f = some af) (hlen : args.length ≤ af.ntmps)
    (hw : startF af.ntmps args fun e => wpC fs ms false af.body e h (endC af Q)) : Calld fs ms f args h Q := by
  rw [startF_eq] at hw
  obtain ⟨x, e1, h1, hb, hk⟩ := wpC_sound hw
  cases x with
  | normal =>
    simp only [endC] at hk
    split at hk
    · rename_i vs hvs; exact ⟨_, _, .call hf hlen hb (.inl rfl) hvs, endQ hk⟩
    · exact hk.elim
  | ret =>
    simp only [endC] at hk
    split at hk
    · rename_i vs hvs; exact ⟨_, _, .call hf hlen hb (.inr rfl) hvs, endQ hk⟩
    · exact hk.elim
  | exit i => exact hk.elim
  | panic v => exact hk.elim

theorem Calld.mono {f : Nat} {args : List AV} {h : Heap} {Q Q' : AV → Heap → Prop} (hc : Calld fs ms f args h Q) (hq : ∀ v h', Q v h' → Q' v h') : Calld fs ms f args h Q' := by
  obtain ⟨v, h', hb, hk⟩ := hc
  exact ⟨v, h', hb, hq v h' hk⟩

theorem Comes.mono {c : AC} {e : Env} {h : Heap} {Q Q' : AX → Env → Heap → Prop} (hc : Comes fs ms rd c e h Q) (hq : ∀ x e' h', Q x e' h' → Q' x e' h') : Comes fs ms rd c e h Q' := by
  obtain ⟨x, e', h', hb, hk⟩ := hc
  exact ⟨x, e', h', hb, hq x e' h' hk⟩

/-- One turn of a loop. -/
theorem comes_loop {c : AC} {e : Env} {h : Heap} {Q : AX → Env → Heap → Prop}
    (hw : wpC fs ms rd c e h fun x e1 h1 => match x with | .normal => Comes fs ms rd (.loop c) e1 h1 Q | x => Q x e1 h1) : Comes fs ms rd (.loop c) e h Q := by
  obtain ⟨x, e1, h1, hb, hk⟩ := wpC_sound hw
  cases x with
  | normal =>
    obtain ⟨x2, e2, h2, hb2, hk2⟩ := hk
    exact ⟨_, _, _, .loopN hb hb2, hk2⟩
  | exit i => exact ⟨_, _, _, .loopX hb rfl, hk⟩
  | ret => exact ⟨_, _, _, .loopX hb rfl, hk⟩
  | panic v => exact ⟨_, _, _, .loopX hb rfl, hk⟩

/- Slots at a loop's head. -/
def sk : Nat → (Nat → Option AV) → Env
  | 0, _ => .nil
  | d + 1, g => .node (sk d fun j => g (2 * j + 1)) (g 0) (sk d fun j => g (2 * j + 2))

def isFull : Nat → Env → Bool
  | 0, .nil => true
  | d + 1, .node l _ r => cond (isFull d l) (isFull d r) false
  | _, _ => false

theorem sk_get : ∀ (d : Nat) (e : Env), isFull d e = true → sk d (Tr.get e) = e
  | 0, .nil, _ => rfl
  | 0, .node _ _ _, h => by simp [isFull] at h
  | d + 1, .nil, h => by simp [isFull] at h
  | d + 1, .node l v r, h => by
    simp only [isFull] at h
    cases hl : isFull d l with
    | false => rw [hl] at h; simp at h
    | true =>
      rw [hl] at h
      simp only [cond_true] at h
      have h1 : (fun j => (Tr.node l v r).get (2 * j + 1)) = Tr.get l := by
        funext j
        rw [Tr.get_odd _ _ (by omega)]
        simp only [Tr.left]
        congr 1
        omega
      have h2 : (fun j => (Tr.node l v r).get (2 * j + 2)) = Tr.get r := by
        funext j
        rw [Tr.get_even _ _ (by omega) (by omega)]
        simp only [Tr.right]
        congr 1
        omega
      simp only [sk]
      rw [h1, h2, sk_get d l hl, sk_get d r h]
      simp [Tr.get]

/-- Some slots are known. -/
def kn (l : List (Nat × AV)) (g : Nat → Option AV) (i : Nat) : Option AV :=
  match l with
  | [] => g i
  | (j, v) :: r => cond (Nat.beq i j) (some v) (kn r g i)

def AllAt (e : Env) : List (Nat × AV) → Prop
  | [] => True
  | (i, v) :: l => Tr.get e i = some v ∧ AllAt e l

theorem kn_get {e : Env} : ∀ {l : List (Nat × AV)}, AllAt e l → ∀ i, kn l (Tr.get e) i = Tr.get e i
  | [], _, i => rfl
  | (j, v) :: r, h, i => by
    simp only [kn]
    cases hb : Nat.beq i j with
    | false => exact kn_get h.2 i
    | true =>
      have := Nat.eq_of_beq_eq_true hb
      subst this
      exact h.1.symm

/-- What is known of the slots, and no more. -/
theorem to_kn {P : Env → Prop} {e : Env} (d : Nat) (l : List (Nat × AV)) (hf : isFull d e = true) (hl : AllAt e l) (hc : ∀ g, P (sk d (kn l g))) : P e := by
  have := hc (Tr.get e)
  rwa [show kn l (Tr.get e) = Tr.get e from funext (kn_get hl), sk_get d e hf] at this

/-- At a loop's head: what is known of the slots. -/
theorem comes_kn {c : AC} {e : Env} {h : Heap} {Q : AX → Env → Heap → Prop} (d : Nat) (l : List (Nat × AV)) (hf : isFull d e = true) (hl : AllAt e l)
    (hc : ∀ g, Comes fs ms rd c (sk d (kn l g)) h Q) : Comes fs ms rd c e h Q := to_kn (P := fun e => Comes fs ms rd c e h Q) d l hf hl hc
end
end Ads
end Go.Proofs.Ytflmbknimebmnaa
