/-
  The evaluator itself, and that it is sound.
-/
import Derived.Test.YtflmbknimebmnaaAdsEvalB
set_option linter.unusedSimpArgs false
set_option linter.unusedVariables false
namespace Go.Proofs.Ytflmbknimebmnaa
namespace Ads

/- Comparing. -/
mutual
def AV.same : AV → AV → Bool
  | .bool a, .bool b => a == b
  | .int k n, .int k' m => cond (decide (k = k')) (decide (n = m)) false
  | .str s, .str t => s == t
  | .ptr b o, .ptr b' o' => Nat.beq b b' && Nat.beq o o'
  | .nilp, .nilp => true
  | .sl b o l c op, .sl b' o' l' c' op' => Nat.beq b b' && Nat.beq o o' && Nat.beq l l' && Nat.beq c c' && op == op'
  | .nils, .nils => true
  | .map b, .map b' => Nat.beq b b'
  | .nilm, .nilm => true
  | .func f a c, .func f' a' c' => decide (f = f') && sameL a a' && sameL c c'
  | .nilf, .nilf => true
  | .yield b, .yield b' => Nat.beq b b'
  | .iface t v, .iface t' v' => Nat.beq t t' && v.same v'
  | .nili, .nili => true
  | .agg cs, .agg cs' => sameL cs cs'
  | .tup cs, .tup cs' => sameL cs cs'
  | _, _ => false
def sameL : List AV → List AV → Bool
  | [], [] => true
  | v :: vs, u :: us => v.same u && sameL vs us
  | _, _ => false
end

mutual
theorem AV.same_eq : ∀ {v u : AV}, v.same u = true → v = u := by
  intro v u h
  cases v <;> cases u <;> simp only [AV.same, Bool.and_eq_true, beq_iff_eq, Bool.false_eq_true, decide_eq_true_eq] at h <;>
    first
    | rfl
    | (obtain rfl := h; rfl)
    | (have := Nat.eq_of_beq_eq_true h; subst this; rfl)
    | (have h1 := Nat.eq_of_beq_eq_true h.1; have h2 := Nat.eq_of_beq_eq_true h.2; subst h1 h2; rfl)
    | (obtain ⟨⟨⟨⟨h1, h2⟩, h3⟩, h4⟩, h5⟩ := h; have := Nat.eq_of_beq_eq_true h1; have := Nat.eq_of_beq_eq_true h2; have := Nat.eq_of_beq_eq_true h3; have := Nat.eq_of_beq_eq_true h4; subst_vars; rfl)
    | (rename_i k n k' m; by_cases hk : k = k' <;> simp [hk] at h; subst hk h; rfl)
    | (rw [sameL_eq h])
    | (obtain ⟨⟨h1, h2⟩, h3⟩ := h; rw [h1, sameL_eq h2, sameL_eq h3])
    | (obtain ⟨h1, h2⟩ := h; rw [Nat.eq_of_beq_eq_true h1, AV.same_eq h2])
theorem sameL_eq : ∀ {v u : List AV}, sameL v u = true → v = u := by
  intro v u h
  cases v <;> cases u <;> simp only [sameL, Bool.and_eq_true, Bool.false_eq_true] at h
  · rfl
  · rw [AV.same_eq h.1, sameL_eq h.2]
end

def readsB (u : Nat → Heap) : List Ins → List (List Nat) → List Mark1 → Bool
  | x :: l, cs :: win, m :: tr => cond (match x.op with
      | .r o => cond m.on (cs.all fun c => match rI o m.vals (u c) with | some v => v.same m.v | none => false) true
      | _ => true) (readsB u l win tr) false
  | _, _, _ => true

theorem readsB_sound {u : Nat → Heap} : ∀ {l : List Ins} {win : List (List Nat)} {tr : List Mark1}, readsB u l win tr = true → readsOk u l win tr
  | [], _, _, _ => by simp [readsOk]
  | _ :: _, [], _, _ => by simp [readsOk]
  | _ :: _, _ :: _, [], _ => by simp [readsOk]
  | x :: l, cs :: win, m :: tr, h => by
    simp only [readsB] at h
    generalize hb : (match x.op with
      | .r o => cond m.on (cs.all fun c => match rI o m.vals (u c) with | some v => v.same m.v | none => false) true
      | _ => true) = b at h
    cases b with
    | false => simp at h
    | true =>
      simp only [cond_true] at h
      simp only [readsOk]
      refine ⟨?_, readsB_sound h⟩
      split
      · rename_i o ho
        intro hon c hc
        rw [ho] at hb
        simp only [hon, cond_true, List.all_eq_true] at hb
        have := hb c hc
        split at this
        · rename_i v hv; rw [hv, AV.same_eq this]
        · simp at this
      · trivial

section
variable (fs : Nat → Option AFunc) (ms : Nat → String → Option Nat)

/-- The evaluator. -/
def ev : Nat → Task → (Res → Bool) → Bool
  | 0, _, _ => false
  | n + 1, t, k => match t with
    | .code rd c e h => match c with
      | .skip => k (.code .normal e h)
      | .ops l => ev n (.ops rd l e h) fun r => match r with
        | .ops tr e' h' => k (.code .normal e' h')
        | _ => false
      | .dops l win => ev n (.ops rd l e h) fun r => match r with
        | .ops tr e' h' => cond (readsB (heapU l tr h') l win tr) (k (.code .normal e' h')) false
        | _ => false
      | .seq a b => ev n (.code rd a e h) fun r => match r with
        | .code .normal e1 h1 => ev n (.code rd b e1 h1) k
        | .code x e1 h1 => k (.code x e1 h1)
        | _ => false
      | .cond c a b => match e.ev c with
        | .bool t => ev n (.code rd (cond t a b) e h) k
        | _ => false
      | .block id c => ev n (.code rd c e h) fun r => match r with
        | .code (.exit i) e1 h1 => cond (Nat.beq i id) (k (.code .normal e1 h1)) (k (.code (.exit i) e1 h1))
        | .code x e1 h1 => k (.code x e1 h1)
        | _ => false
      | .loop c => ev n (.code rd c e h) fun r => match r with
        | .code .normal e1 h1 => ev n (.code rd (.loop c) e1 h1) k
        | .code x e1 h1 => k (.code x e1 h1)
        | _ => false
      | .exit id => k (.code (.exit id) e h)
      | .ret => k (.code .ret e h)
      | .rangeFunc g ps a b => match rd, e.ev g with
        | false, .func (.func f) first capt => newF h (.loop 0 none e ps a b) fun h1 => ev n (.call f (first ++ (.yield h.next :: capt)) h1) fun r => match r with
          | .val v h2 => match h2.get h.next with
            | some (.loop st none _ _ _ _) => cond (Nat.beq st 1) false (bsetF h2 h.next (.loop 3 none e ps a b) fun h3 => k (.code .normal e h3))
            | some (.loop st (some (.exit id)) _ _ _ _) => cond (Nat.beq st 1) false (bsetF h2 h.next (.loop 3 (some (.exit id)) e ps a b) fun h3 => k (.code (.exit id) e h3))
            | some (.loop st (some .ret) _ _ _ _) => cond (Nat.beq st 1) false (bsetF h2 h.next (.loop 3 (some .ret) e ps a b) fun h3 => k (.code .ret e h3))
            | _ => false
          | _ => false
        | _, _ => false
      | .bad => false
    | .ops rd l e h => match l with
      | [] => k (.ops [] e h)
      | i :: l => cond (wantedA i e)
          (ev n (.op rd i.op (i.args.map e.ev) h) fun r => match r with
            | .val v h1 => putE e i.dst v fun e1 => ev n (.ops rd l e1 h1) fun r => match r with
              | .ops tr e' h' => k (.ops (⟨h, i.args.map e.ev, v, true⟩ :: tr) e' h')
              | _ => false
            | _ => false)
          (putE e i.dst .undef fun e1 => ev n (.ops rd l e1 h) fun r => match r with
            | .ops tr e' h' => k (.ops (⟨h, i.args.map e.ev, .undef, false⟩ :: tr) e' h')
            | _ => false)
    | .op rd o vals h => match o with
      | .p o => match pI o vals with
        | some v => fV v fun v => k (.val v h)
        | none => false
      | .a o => match aI o vals with
        | some (x, f) => fV (f h.next) fun v => newF h x fun h1 => k (.val v h1)
        | none => false
      | .r o => match rI o vals h with
        | some v => fV v fun v => k (.val v h)
        | none => false
      | .e o => eIF o vals h fun v h1 => fV v fun v => k (.val v h1)
      | .call => match vals with
        | fv :: args => ev n (.callv fv args h) k
        | [] => false
      | .invoke name => match vals with
        | .iface t x :: args => match ms t name with
          | some f => ev n (.call f (x :: args) h) k
          | none => false
        | _ => false
      | _ => false
    | .callv fv args h => match fv with
      | .func (.func f) first capt => ev n (.call f (first ++ (args ++ capt)) h) k
      | .yield L => match h.get L with
        | some (.loop 0 pend e ps a b) => cond (Nat.beq args.length ps.length && Nat.ble (L + 1) h.next)
          (ev n (.code true a (putAll ps args e) h) fun r => match r with
            | .code .normal e2 h2 => match h2.get L with
              | some (.loop 0 pend2 _ _ _ _) => bsetF h2 L (.loop 1 pend2 e ps a b) fun h3 => ev n (.code true b e2 h3) fun r => match r with
                | .code (.panic _) _ _ => false
                | .code x e4 h4 => bsetF h4 L (.loop (cond x.normal? 0 2) (pendOf x) e ps a b) fun h5 => k (.val (.bool x.normal?) h5)
                | _ => false
              | _ => false
            | _ => false) false
        | _ => false
      | _ => false
    | .call f args h => match fs f with
      | some af => cond (Nat.ble args.length af.ntmps) (startF af.ntmps args fun e0 => ev n (.code false af.body e0 h) fun r => match r with
        | .code x e h1 => match x with
          | .normal | .ret => match resAll e h1 af.results with
            | some vs => fV (resVal vs) fun v => k (.val v h1)
            | none => false
          | _ => false
        | _ => false) false
      | none => false
end

section
variable {fs : Nat → Option AFunc} {ms : Nat → String → Option Nat}

theorem BS.next_le {t : Task} {r : Res} (h : BS fs ms t r) : t.heap.next ≤ r.heap.next := h.keep.1

theorem ev_sound : ∀ (n : Nat) (t : Task) (k : Res → Bool), ev fs ms n t k = true → ∃ r, BS fs ms t r ∧ k r = true
  | 0, t, k, h => by simp [ev] at h
  | n + 1, t, k, h => by
    have ih := fun t k => ev_sound n t k
    unfold ev at h
    split at h
    · rename_i rd c e hp
      split at h
      · exact ⟨_, .skip, h⟩
      · obtain ⟨r, hr, hk⟩ := ih _ _ h
        split at hk
        · exact ⟨_, .ops hr, hk⟩
        · simp at hk
      · rename_i l win
        obtain ⟨r, hr, hk⟩ := ih _ _ h
        split at hk
        · rename_i tr e' h'
          cases hb : readsB (heapU l tr h') l win tr with
          | false => simp [hb] at hk
          | true => rw [hb] at hk; exact ⟨_, .dops hr (readsB_sound hb), hk⟩
        · simp at hk
      · obtain ⟨r, hr, hk⟩ := ih _ _ h
        split at hk
        · obtain ⟨r', hr', hk'⟩ := ih _ _ hk
          exact ⟨_, .seqN hr hr', hk'⟩
        · rename_i x e1 h1 hne
          refine ⟨_, .seqX hr ?_, hk⟩
          cases x <;> simp_all [AX.normal?]
        · simp at hk
      · split at h
        · rename_i t ht
          obtain ⟨r, hr, hk⟩ := ih _ _ h
          exact ⟨_, .cond ht hr, hk⟩
        · simp at h
      · rename_i id c
        obtain ⟨r, hr, hk⟩ := ih _ _ h
        split at hk
        · rename_i i e1 h1
          cases hb : Nat.beq i id with
          | true =>
            rw [hb] at hk
            have := Nat.eq_of_beq_eq_true hb
            subst this
            exact ⟨_, .blockX hr, hk⟩
          | false =>
            rw [hb] at hk
            refine ⟨_, .blockN hr ?_, hk⟩
            intro j hj hji
            simp only [AX.exit.injEq] at hj
            subst hj hji
            simp at hb
        · rename_i x e1 h1 hne
          exact ⟨_, .blockN hr (fun i hi => absurd hi (by intro hc; exact hne i hc)), hk⟩
        · simp at hk
      · obtain ⟨r, hr, hk⟩ := ih _ _ h
        split at hk
        · obtain ⟨r', hr', hk'⟩ := ih _ _ hk
          exact ⟨_, .loopN hr hr', hk'⟩
        · rename_i x e1 h1 hne
          refine ⟨_, .loopX hr ?_, hk⟩
          cases x <;> simp_all [AX.normal?]
        · simp at hk
      · exact ⟨_, .exit, h⟩
      · exact ⟨_, .ret, h⟩
      · rename_i g ps a b
        split at h
        · rename_i f first capt hg
          rw [newF_eq] at h
          obtain ⟨r, hr, hk⟩ := ih _ _ h
          split at hk
          · rename_i v h2
            have hkeep := hr.keep.2 hp.next 0 none e ps a b (by simp [Task.heap]) (by simp [Task.heap, Heap.get_new])
            obtain ⟨st', pend', hget⟩ := hkeep
            simp only [Res.heap] at hget
            rw [hget] at hk
            have hst : ∀ {x : Bool}, cond (Nat.beq st' 1) false x = true → st' ≠ 1 ∧ x = true := by
              intro x hx
              cases hb : Nat.beq st' 1 with
              | true => rw [hb] at hx; simp at hx
              | false => rw [hb] at hx; exact ⟨by (rintro rfl; simp at hb), hx⟩
            split at hk
            · rename_i heq
              simp only [Option.some.injEq, Blk.loop.injEq] at heq
              obtain ⟨rfl, rfl, _⟩ := heq
              obtain ⟨h1, h2'⟩ := hst hk
              rw [bsetF_eq] at h2'
              exact ⟨_, .rangeFunc (x := .normal) hg hr hget h1 (by simp), h2'⟩
            · rename_i heq
              simp only [Option.some.injEq, Blk.loop.injEq] at heq
              obtain ⟨rfl, rfl, _⟩ := heq
              obtain ⟨h1, h2'⟩ := hst hk
              rw [bsetF_eq] at h2'
              exact ⟨_, .rangeFunc (x := .exit _) hg hr hget h1 (by simp), h2'⟩
            · rename_i heq
              simp only [Option.some.injEq, Blk.loop.injEq] at heq
              obtain ⟨rfl, rfl, _⟩ := heq
              obtain ⟨h1, h2'⟩ := hst hk
              rw [bsetF_eq] at h2'
              exact ⟨_, .rangeFunc (x := .ret) hg hr hget h1 (by simp), h2'⟩
            · simp at hk
          · simp at hk
        · simp at h
      · simp at h
    · rename_i rd l e hp
      split at h
      · exact ⟨_, .nil, h⟩
      · rename_i i l
        cases hw : wantedA i e with
        | true =>
          rw [hw] at h
          obtain ⟨r, hr, hk⟩ := ih _ _ h
          split at hk
          · rw [putE_eq] at hk
            obtain ⟨r', hr', hk'⟩ := ih _ _ hk
            split at hk'
            · exact ⟨_, .on hw hr hr', hk'⟩
            · simp at hk'
          · simp at hk
        | false =>
          rw [hw] at h
          simp only [cond_false, putE_eq] at h
          obtain ⟨r, hr, hk⟩ := ih _ _ h
          split at hk
          · exact ⟨_, .off hw hr, hk⟩
          · simp at hk
    · rename_i rd o vals hp
      split at h
      · split at h
        · rename_i v hv; rw [fV_eq] at h; exact ⟨_, .opP hv, h⟩
        · simp at h
      · split at h
        · rename_i x f hv
          rw [fV_eq, newF_eq] at h
          exact ⟨_, .opA hv, h⟩
        · simp at h
      · split at h
        · rename_i v hv; rw [fV_eq] at h; exact ⟨_, .opR hv, h⟩
        · simp at h
      · obtain ⟨v, h1, hv, hk⟩ := eIF_sound h
        rw [fV_eq] at hk
        exact ⟨_, .opE hv, hk⟩
      · split at h
        · obtain ⟨r, hr, hk⟩ := ih _ _ h
          cases hr with
          | callv hc => exact ⟨_, .opCall (.callv hc), hk⟩
          | yield h1 h2 h3 h4 h5 h6 h7 => exact ⟨_, .opCall (.yield h1 h2 h3 h4 h5 h6 h7), hk⟩
        · simp at h
      · split at h
        · split at h
          · rename_i f hf
            obtain ⟨r, hr, hk⟩ := ih _ _ h
            obtain ⟨v, h1, rfl⟩ := hr.call_val
            exact ⟨_, .opInvoke hf hr, hk⟩

          · simp at h
        · simp at h
      · simp at h
    · rename_i fv args hp
      split at h
      · obtain ⟨r, hr, hk⟩ := ih _ _ h
        obtain ⟨v, h1, rfl⟩ := hr.call_val
        exact ⟨_, .callv hr, hk⟩
      · rename_i L
        split at h
        · rename_i pend e ps a b hg
          cases hc : (Nat.beq args.length ps.length && Nat.ble (L + 1) hp.next) with
          | false => rw [hc] at h; simp at h
          | true =>
            rw [hc] at h
            simp only [cond_true] at h
            simp only [Bool.and_eq_true] at hc
            have hlen := Nat.eq_of_beq_eq_true hc.1
            have hL : L < hp.next := Nat.le_of_ble_eq_true hc.2
            obtain ⟨r, hr, hk⟩ := ih _ _ h
            split at hk
            · rename_i e2 h2
              obtain ⟨st', pend', hget⟩ := hr.keep.2 L 0 pend e ps a b hL hg
              simp only [Res.heap] at hget
              rw [hget] at hk
              split at hk
              · rename_i heq
                simp only [Option.some.injEq, Blk.loop.injEq] at heq
                obtain ⟨rfl, rfl, _⟩ := heq
                rw [bsetF_eq] at hk
                obtain ⟨r', hr', hk'⟩ := ih _ _ hk
                have hL2 : L < h2.next := Nat.lt_of_lt_of_le hL hr.keep.1
                split at hk'
                · simp at hk'
                · rename_i x e4 h4 hnp
                  obtain ⟨st4, pend4, hget4⟩ := hr'.keep.2 L 1 pend' e ps a b hL2 (by simp [Task.heap, Heap.get_set])
                  rw [bsetF_eq] at hk'
                  exact ⟨_, .yield hg hlen hr hget hr' (fun v hv => hnp v hv) hget4, hk'⟩
                · simp at hk'
              · simp at hk
            · simp at hk
        · simp at h
      · simp at h
    · rename_i f args hp
      split at h
      · rename_i af haf
        cases hl : Nat.ble args.length af.ntmps with
        | false => rw [hl] at h; simp at h
        | true =>
          rw [hl] at h
          simp only [cond_true, startF_eq] at h
          obtain ⟨r, hr, hk⟩ := ih _ _ h
          split at hk
          · split at hk
            · split at hk
              · rename_i vs hvs
                rw [fV_eq] at hk
                exact ⟨_, .call haf (Nat.le_of_ble_eq_true hl) hr (.inl rfl) hvs, hk⟩
              · simp at hk
            · split at hk
              · rename_i vs hvs
                rw [fV_eq] at hk
                exact ⟨_, .call haf (Nat.le_of_ble_eq_true hl) hr (.inr rfl) hvs, hk⟩
              · simp at hk
            · simp at hk
          · simp at hk
      · simp at h
end
end Ads
end Go.Proofs.Ytflmbknimebmnaa
