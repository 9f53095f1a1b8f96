/-
  Gate: a partition that shares nothing is tested by itself.
-/
import Derived.Test.YtecdcefacdodgaaVGatO
set_option maxRecDepth 100000
set_option linter.unusedSimpArgs false
set_option linter.unusedVariables false
namespace Go.Proofs.Ytecdcefacdodgaa
open Go Ads
namespace Ir

def Free (x : Pt) : Prop := ∀ t, t ∈ x.ts → t.c = 0
theorem waitS_free {A : List Pt} {a : Int} {t : Tk} (h : t.c = 0) : waitS A a t = 0 := by rw [waitS, if_pos h]
theorem moreOne_free {A B : List Pt} {a b : Int} {t : Tk} (h : t.c = 0) : moreOne A a t = moreOne B b t := by
  unfold moreOne
  rw [waitS_free h, waitS_free h]
theorem byOne_free {A B : List Pt} {a b : Int} {t : Tk} (h : t.c = 0) : byOne A a t = byOne B b t := by rw [byOne, byOne, if_pos h, if_pos h]
theorem ofN_free {A B : List Pt} {a b n : Int} {ts : List Tk} (h : ∀ t, t ∈ ts → t.c = 0) : ∀ j, ofN A a n ts j = ofN B b n ts j
  | 0 => rfl
  | j + 1 => by
    rw [ofN, ofN, ofN_free (A := A) (B := B) (a := a) (b := b) h j]
    cases hx : ts[j]? with
    | none => rfl
    | some t => simp only [byOne_free (A := A) (B := B) (a := a) (b := b) (h t (List.mem_of_getElem? hx))]
theorem testS_free {A : List Pt} {i : Nat} {x : Pt} (hi : A[i]? = some x) (hx : Free x) (hd : delCheck A = delCheck [x]) : testS A (i : Nat) = testS [x] 0 := by
  have hm : moreL A i = moreL [x] 0 := by
    unfold moreL
    rw [hi]
    exact List.map_congr_left fun t ht => moreOne_free (hx t ht)
  have h0 : ∀ n, dOf9 A ((i : Nat) : Int) n = dOf9 [x] 0 n := by
    intro n
    unfold dOf9
    rw [hd, show ((i : Nat) : Int).toNat = i by simp, hi]
    show (if delCheck [x] = 2 then ((0 : Int), (2 : Int)) else if ((i : Nat) : Int) < 0 then (0, 9) else if n < 0 then (0, 2) else (ofN A (i : Nat) n x.ts x.ts.length, 0)) = (if delCheck [x] = 2 then (0, 2) else if (0 : Int) < 0 then (0, 9) else if n < 0 then (0, 2) else (ofN [x] 0 n x.ts x.ts.length, 0))
    rw [if_neg (show ¬ ((i : Nat) : Int) < 0 by omega), if_neg (show ¬ (0 : Int) < 0 by omega), ofN_free (A := A) (B := [x]) (a := ((i : Nat) : Int)) (b := 0) hx]
  unfold testS
  rw [hd, show ((i : Nat) : Int).toNat = i by simp, hi]
  have hb : badB x A ((i : Nat) : Int) (moreL [x] 0) = badB x [x] 0 (moreL [x] 0) := by
    funext t
    unfold badB slackI
    rw [h0]
  show (if delCheck [x] = 2 then ((0 : Int), (2 : Int)) else if ((i : Nat) : Int) < 0 then (0, 9) else if x.ts.length = 0 then (0, 0) else testP x A (i : Nat) (moreL A i)) = (if delCheck [x] = 2 then (0, 2) else if (0 : Int) < 0 then (0, 9) else if x.ts.length = 0 then (0, 0) else testP x [x] 0 (moreL [x] 0))
  rw [if_neg (show ¬ ((i : Nat) : Int) < 0 by omega), if_neg (show ¬ (0 : Int) < 0 by omega), hm]
  simp only [testP, hb]

/- Configurations made to be such. -/
theorem m12_ok (t : Tk) (b : Int) : taskOk (m12 t) = true ∧ mayD (m12 t) b = true ∧ mayC (m12 t) b = true ∧ (m12 t).c = 0 := by
  obtain ⟨hp, hd, hw, -⟩ := n9_in 1 t (by omega)
  have h1 : inB (n9p t) 1 64 = true := inB_iff.2 hp
  have h2 : inB (n9d t) 1 (n9p t) = true := inB_iff.2 hd
  have h3 : inB (n9w t) 1 (n9d t) = true := inB_iff.2 hw
  refine ⟨decide_eq_true ?_, decide_eq_true ?_, ?_, rfl⟩
  · show 1 ≤ n9w t ∧ n9w t ≤ n9d t ∧ n9d t ≤ n9p t ∧ n9p t ≤ 64
    omega
  · show (0 : Int) ≤ 0 ∧ 0 ≤ n9w t ∧ (0 : Int) ≤ 0 ∧ (0 : Int) ≤ 4 ∧ (((0 : Int) = 0 ∧ (0 : Int) = 0 ∧ (0 : Int) = 0) ∨ _)
    exact ⟨by omega, by omega, by omega, by omega, .inl ⟨rfl, rfl, rfl⟩⟩
  · show (inB (n9p t) 1 64 && inB (n9d t) 1 (n9p t) && inB (n9w t) 1 (n9d t) && true && true && true && true && true) = true
    rw [h1, h2, h3]
    rfl
theorem m12P_ok (x : Pt) : partOk (m12P x) = true ∧ partC (m12P x) = true ∧ Short (m12P x) ∧ Free (m12P x) ∧ (m12P x).ts.length ≤ 3 := by
  have hin := q9_in x
  have hper : q9p x ≤ 10 := by
    have a2 := Int.emod_lt_of_pos x.per (show (0 : Int) < 10 by omega)
    unfold q9p
    omega
  have ht : ∀ t, t ∈ (m12P x).ts → taskOk t = true ∧ mayD t (q9b x) = true ∧ mayC t (q9b x) = true ∧ t.c = 0 := by
    intro t ht
    obtain ⟨u, -, rfl⟩ := List.mem_map.1 ht
    exact m12_ok u _
  have hl : (m12P x).ts.length ≤ 3 := by
    show (m12Ts x.ts).length ≤ 3
    simp [m12Ts]
    omega
  refine ⟨?_, ?_, ⟨hin.1, hper, hin.2.2.1, hin.2.2.2⟩, fun t h => (ht t h).2.2.2, hl⟩
  · simp only [partOk, Bool.and_eq_true]
    refine ⟨decide_eq_true hin, ?_, List.all_eq_true.2 fun t h => (ht t h).2.1⟩
    rw [tasksOk, Bool.and_eq_true, List.all_eq_true]
    exact ⟨fun t h => (ht t h).1, decide_eq_true (by omega)⟩
  · simp only [partC, Bool.and_eq_true, decide_eq_true_eq]
    exact ⟨⟨⟨inB_iff.2 ⟨hin.1, hin.2.1⟩, inB_iff.2 ⟨hin.2.2.1, hin.2.2.2⟩⟩, by omega⟩, List.all_eq_true.2 fun t h => (ht t h).2.2.1⟩
theorem m12Ps_mem {l : List Pt} {x : Pt} (h : x ∈ m12Ps l) : ∃ y, x = m12P y := by
  obtain ⟨y, -, rfl⟩ := List.mem_map.1 h
  exact ⟨y, rfl⟩

/-- Partitions that share nothing, of short periods. -/
def Plain (x : Pt) : Prop := partOk x = true ∧ partC x = true ∧ Short x ∧ Free x
theorem m12Ps_plain {l : List Pt} : ∀ x, x ∈ m12Ps l → Plain x := by
  intro x hx
  obtain ⟨y, rfl⟩ := m12Ps_mem hx
  have := m12P_ok y
  exact ⟨this.1, this.2.1, this.2.2.1, this.2.2.2.1⟩
theorem plain_conf {M : List Pt} (h : ∀ x, x ∈ M → Plain x) (h1 : 1 ≤ M.length) (h4 : M.length ≤ 4) : confC M = true := by
  simp only [confC, Bool.and_eq_true, decide_eq_true_eq]
  exact ⟨⟨List.all_eq_true.2 fun x hx => (h x hx).2.1, h1⟩, h4⟩
theorem plain_del {M : List Pt} (h : ∀ x, x ∈ M → Plain x) (h4 : M.length ≤ 4) : delCheck M = 0 := by
  unfold delCheck
  rw [if_pos ⟨h4, List.all_eq_true.2 fun x hx => (h x hx).1⟩]

/-- What passes the gate: a row of plain partitions. -/
theorem gate_plain {M : List Pt} {w : List Bool} (h : ∀ x, x ∈ M → Plain x) (h1 : 1 ≤ M.length) (h4 : M.length ≤ 4) (hw : w.length = M.length) :
    (gateS M w).2.2 = 0 ↔ (sumWt (selP M w M.length) ≤ 2520 ∧ ∀ x, x ∈ selP M w M.length → (testS [x] 0).2 = 0) := by
  have hask : askedS M w = 0 := by rw [askedS, if_pos (plain_conf h h1 h4), if_pos hw]
  have hsl := (sel_len hw M.length (Nat.le_refl _)).1
  have hS : ∀ x, x ∈ selP M w M.length → Plain x := fun x hx => h x (selP_mem hx)
  unfold gateS
  rw [hask, if_neg (by omega)]
  generalize selP M w M.length = S at *
  have hsh := shareT_short (fun x hx => (hS x hx).2.2.1) (show S.length ≤ 4 by omega)
  have hdel := plain_del hS (by omega)
  have ht : ∀ i (hi : i < S.length), testS S ((i : Nat) : Int) = testS [S[i]] 0 := by
    intro i hi
    have hx := hS _ (List.getElem_mem hi)
    refine testS_free (List.getElem?_eq_getElem hi) hx.2.2.2 ?_
    rw [hdel, plain_del (M := [S[i]]) (fun x hx2 => by rw [List.mem_singleton] at hx2; rw [hx2]; exact hx) (by simp)]
  by_cases hs : shareT S = 0
  · rw [if_neg (by omega)]
    cases hfb : firstBad (fun i => !((testS S ((i : Nat) : Int)).2 == 0)) 0 S.length with
    | none =>
      refine ⟨fun _ => ⟨hsh.1 hs, fun x hx => ?_⟩, fun _ => rfl⟩
      obtain ⟨i, hi, rfl⟩ := List.getElem_of_mem hx
      have := firstBad_none hfb i hi
      rw [Nat.zero_add, ht i hi] at this
      simpa using this
    | some u =>
      obtain ⟨u1, u2, u3, u4⟩ := firstBad_some hfb
      have hu : u < S.length := by omega
      rw [ht u hu] at u3
      have hne : (testS [S[u]] 0).2 ≠ 0 := by simpa using u3
      refine ⟨fun h0 => ?_, fun h0 => absurd (h0.2 _ (List.getElem_mem hu)) hne⟩
      have h0 : (testS S ((u : Nat) : Int)).2 = 0 := h0
      rw [ht u hu] at h0
      exact absurd h0 hne
  · rw [if_pos hs]
    exact ⟨fun h0 => absurd h0 hs, fun h0 => absurd (hsh.2 h0.1) hs⟩
end Ir
end Go.Proofs.Ytecdcefacdodgaa
