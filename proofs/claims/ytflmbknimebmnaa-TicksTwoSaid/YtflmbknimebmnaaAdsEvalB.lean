/-
  The evaluator: loops' records are kept; comparing; the evaluator itself, and that it is sound.
-/
import Derived.Test.YtflmbknimebmnaaAdsEval
set_option linter.unusedSimpArgs false
set_option linter.unusedVariables false
namespace Go.Proofs.Ytflmbknimebmnaa
namespace Ads

/- Records of loops keep what they were made of. -/
def LK (h h' : Heap) : Prop := h.next ≤ h'.next ∧ ∀ L st pend e ps a b, L < h.next → h.get L = some (.loop st pend e ps a b) → ∃ st' pend', h'.get L = some (.loop st' pend' e ps a b)

theorem LK.refl (h : Heap) : LK h h := ⟨Nat.le_refl _, fun L st pend e ps a b _ hg => ⟨st, pend, hg⟩⟩
theorem LK.trans {h h1 h2 : Heap} (x : LK h h1) (y : LK h1 h2) : LK h h2 := by
  refine ⟨Nat.le_trans x.1 y.1, fun L st pend e ps a b hL hg => ?_⟩
  obtain ⟨st', pend', hg'⟩ := x.2 L st pend e ps a b hL hg
  exact y.2 L st' pend' e ps a b (Nat.lt_of_lt_of_le hL x.1) hg'
theorem LK.new (h : Heap) (x : Blk) : LK h (h.new x) :=
  ⟨by simp, fun L st pend e ps a b hL hg => ⟨st, pend, by rw [Heap.get_new, if_neg (by omega)]; exact hg⟩⟩
theorem LK.set {h : Heap} {b : Nat} {x y : Blk} (hb : h.get b = some x) (hx : ∀ st pend e ps a c, x ≠ .loop st pend e ps a c) : LK h (h.set b y) := by
  refine ⟨Nat.le_refl _, fun L st pend e ps a c hL hg => ⟨st, pend, ?_⟩⟩
  rw [Heap.get_set, if_neg]
  · exact hg
  · rintro rfl
    rw [hb] at hg
    cases hg
    exact hx _ _ _ _ _ _ rfl
theorem LK.del {h : Heap} {b : Nat} {x : Blk} (hb : h.get b = some x) (hx : ∀ st pend e ps a c, x ≠ .loop st pend e ps a c) : LK h (h.del b) := by
  refine ⟨Nat.le_refl _, fun L st pend e ps a c hL hg => ⟨st, pend, ?_⟩⟩
  rw [Heap.get_del, if_neg]
  · exact hg
  · rintro rfl
    rw [hb] at hg
    cases hg
    exact hx _ _ _ _ _ _ rfl
theorem LK.store {h h' : Heap} {b o : Nat} {xs : List AV} (hs : h.storeN b o xs = some h') : LK h h' := by
  unfold Heap.storeN at hs
  split at hs
  · rename_i vs es hg
    cases hc : (Nat.ble (o + xs.length) vs.length && flatL xs) with
    | false => simp [hc] at hs
    | true =>
      simp only [hc, cond_true, Option.some.injEq] at hs
      subst hs
      exact LK.set hg (by simp)
  · simp at hs

theorem LK.eff {o : EOp} {args : List AV} {h h' : Heap} {v : AV} (he : eI o args h = some (v, h')) : LK h h' := by
  unfold eI at he
  split at he
  · rename_i n b o v
    cases hb : Nat.beq v.cells.length n with
    | false => simp [hb] at he
    | true =>
      simp only [hb, cond_true, Option.map_eq_some_iff, Prod.mk.injEq] at he
      obtain ⟨h1, hs, _, rfl⟩ := he
      exact LK.store hs
  · rename_i size bytes s x
    split at he
    · simp at he
    · rename_i n new hsc
      cases hf : flatL new with
      | false => simp [hf] at he
      | true =>
        simp only [hf, cond_true] at he
        split at he
        · cases h0 : Nat.beq n 0 with
          | true =>
            simp only [h0, cond_true, Option.some.injEq, Prod.mk.injEq] at he
            obtain ⟨_, rfl⟩ := he
            exact LK.refl _
          | false =>
            simp only [h0, cond_false] at he
            cases hc : (Nat.ble (n * bytes) 140737488355328 && Nat.ble n 9223372036854775807) with
            | false => simp [hc] at he
            | true =>
              simp only [hc, cond_true, Option.some.injEq, Prod.mk.injEq] at he
              obtain ⟨_, rfl⟩ := he
              exact LK.new _ _
        · rename_i b o len cap opn
          cases hle : Nat.ble (len + n) cap with
          | true =>
            simp only [hle, cond_true, Option.map_eq_some_iff, Prod.mk.injEq] at he
            obtain ⟨h1, hs, _, rfl⟩ := he
            exact LK.store hs
          | false =>
            simp only [hle, cond_false] at he
            cases hc : (Nat.ble ((len + n) * bytes) 140737488355328 && Nat.ble (len + n) 9223372036854775807) with
            | false => simp [hc] at he
            | true =>
              simp only [hc, cond_true] at he
              split at he
              · rename_i vs wr es old hg hl
                cases opn with
                | false =>
                  simp only [cond_false, Option.some.injEq, Prod.mk.injEq] at he
                  obtain ⟨_, rfl⟩ := he
                  exact LK.new _ _
                | true =>
                  simp only [cond_true] at he
                  cases hw : (wr && Nat.beq vs.length (o + len * size) && Nat.beq cap len && Nat.beq es size) with
                  | false => simp [hw] at he
                  | true =>
                    simp only [hw, cond_true, Option.some.injEq, Prod.mk.injEq] at he
                    obtain ⟨_, rfl⟩ := he
                    exact (LK.del hg (by simp)).trans (LK.new _ _)
              · simp at he
        · simp at he
  · rename_i size d x
    split at he
    · simp only [Option.some.injEq, Prod.mk.injEq] at he
      obtain ⟨_, rfl⟩ := he
      exact LK.refl _
    · simp only [Option.map_eq_some_iff, Prod.mk.injEq] at he
      obtain ⟨h1, hs, _, rfl⟩ := he
      exact LK.store hs
    · simp at he
  · rename_i zeros d
    split at he
    · simp only [Option.some.injEq, Prod.mk.injEq] at he
      obtain ⟨_, rfl⟩ := he
      exact LK.refl _
    · simp only [Option.map_eq_some_iff, Prod.mk.injEq] at he
      obtain ⟨h1, hs, _, rfl⟩ := he
      exact LK.store hs
    · split at he
      · rename_i hg
        simp only [Option.some.injEq, Prod.mk.injEq] at he
        obtain ⟨_, rfl⟩ := he
        exact LK.set hg (by simp)
      · simp at he
    · simp at he
  · split at he
    · rename_i hg
      split at he
      · simp only [Option.some.injEq, Prod.mk.injEq] at he
        obtain ⟨_, rfl⟩ := he
        exact LK.set hg (by simp)
      · simp at he
    · simp at he
  · simp only [Option.some.injEq, Prod.mk.injEq] at he
    obtain ⟨_, rfl⟩ := he
    exact LK.new _ _
  · simp at he

def Task.heap : Task → Heap
  | .code _ _ _ h => h
  | .ops _ _ _ h => h
  | .op _ _ _ h => h
  | .callv _ _ h => h
  | .call _ _ h => h
def Res.heap : Res → Heap
  | .code _ _ h => h
  | .ops _ _ h => h
  | .val _ h => h

theorem BS.keep {fs : Nat → Option AFunc} {ms : Nat → String → Option Nat} {t : Task} {r : Res} (h : BS fs ms t r) : LK t.heap r.heap := by
  induction h with
  | skip => exact LK.refl _
  | ops _ ih => exact ih
  | dops _ _ ih => exact ih
  | seqN _ _ ih1 ih2 => exact ih1.trans ih2
  | seqX _ _ ih => exact ih
  | cond _ _ ih => exact ih
  | blockX _ ih => exact ih
  | blockN _ _ ih => exact ih
  | loopN _ _ ih1 ih2 => exact ih1.trans ih2
  | loopX _ _ ih => exact ih
  | exit => exact LK.refl _
  | ret => exact LK.refl _
  | @rangeFunc g ps a b e h f first capt v h2 st x hg hc hl hst hx ih =>
    have h1 := (LK.new h (.loop 0 none e ps a b)).trans ih
    refine ⟨h1.1, fun L st pend e ps a b hL hgl => ?_⟩
    obtain ⟨st', pend', hg'⟩ := h1.2 L st pend e ps a b hL hgl
    have hL' : L < h.next := hL
    exact ⟨st', pend', by simp only [Res.heap]; rw [Heap.get_set, if_neg (by omega)]; exact hg'⟩
  | nil => exact LK.refl _
  | off _ _ ih => exact ih
  | on _ _ _ ih1 ih2 => exact ih1.trans ih2
  | opP _ => exact LK.refl _
  | opA _ => exact LK.new _ _
  | opR _ => exact LK.refl _
  | opE h => exact LK.eff h
  | opCall _ ih => exact ih
  | opInvoke _ _ ih => exact ih
  | callv _ ih => exact ih
  | @yield L args h pend e ps a b e2 h2 pend2 x e4 h4 st4 pend4 hg hlen hs1 hg2 hs2 hx hg4 ih1 ih2 =>
    simp only [Task.heap, Res.heap] at ih1 ih2 ⊢
    refine ⟨Nat.le_trans ih1.1 ih2.1, fun L0 st0 pend0 e0 ps0 a0 b0 hL0 hg0 => ?_⟩
    by_cases hl : L0 = L
    · subst hl
      rw [hg] at hg0
      cases hg0
      exact ⟨_, _, by rw [Heap.get_set, if_pos rfl]⟩
    · obtain ⟨s1, p1, g1⟩ := ih1.2 L0 st0 pend0 e0 ps0 a0 b0 hL0 hg0
      obtain ⟨s2, p2, g2⟩ := ih2.2 L0 s1 p1 e0 ps0 a0 b0 (Nat.lt_of_lt_of_le hL0 ih1.1) (by rw [Heap.get_set, if_neg hl]; exact g1)
      exact ⟨s2, p2, by rw [Heap.get_set, if_neg hl]; exact g2⟩
  | call _ _ _ _ _ ih => exact ih
  | fresh _ _ _ _ => exact LK.refl _

theorem BS.call_val {fs : Nat → Option AFunc} {ms : Nat → String → Option Nat} {f : Nat} {args : List AV} {h : Heap} {r : Res} (hb : BS fs ms (.call f args h) r) : ∃ v h1, r = .val v h1 := by
  cases hb with
  | call _ _ _ _ _ => exact ⟨_, _, rfl⟩
  | fresh _ _ _ => exact ⟨_, _, rfl⟩

end Ads
end Go.Proofs.Ytflmbknimebmnaa
