/-
  Local: what is asked for of tasks is no more than a server gives. Local: tasks that are played, by the least deadline first.
-/
import Derived.Test.YtlndlbngfgaoeaaVEdh
import Derived.Test.YtlndlbngfgaoeaaVLocP
set_option maxRecDepth 100000
set_option linter.unusedSimpArgs false
set_option linter.unusedVariables false
namespace Go.Proofs.Ytlndlbngfgaoeaa
open Go Ads
namespace Ir
open Edf

def tk0 : Tk := ⟨1, 1, 1, 0, 0, 0, 0, 0⟩
def tD (ts : List Tk) (i : Nat) : Int := (ts.getD i tk0).d
def tC (ts : List Tk) (i : Nat) : Int := (ts.getD i tk0).w
def tP (ts : List Tk) (i : Nat) : Int := (ts.getD i tk0).p

theorem sm_shift (f : Nat → Int) : ∀ m, sm f (m + 1) = f 0 + sm (fun i => f (i + 1)) m
  | 0 => by simp [sm]
  | m + 1 => by
    have := sm_shift f m
    rw [sm, this, sm]
    omega
theorem dbf_ask {n : Int} (h0 : 0 ≤ n) : ∀ (ts : List Tk) (a : List Int), a.length = ts.length → (∀ t, t ∈ ts → OkT t) → (∀ m, m ∈ a → 0 ≤ m) → sm (dbf (tD ts) (tC ts) (tP ts) n) ts.length ≤ (askP (jobsP n) ts a).sum
  | [], a, _, _, _ => by simp [askP, sm]
  | t :: ts, [], hl, _, _ => by simp at hl
  | t :: ts, m :: a, hl, ho, hm => by
    have ih := dbf_ask h0 ts a (by simpa using hl) (fun u hu => ho u (List.mem_cons_of_mem _ hu)) (fun u hu => hm u (List.mem_cons_of_mem _ hu))
    obtain ⟨o1, o2, o3, o4⟩ := ho t List.mem_cons_self
    have hm0 := hm m List.mem_cons_self
    have hj : 0 ≤ jobsP n t := by
      unfold jobsP
      split
      · omega
      · have := Int.ediv_nonneg (a := n - t.d) (b := t.p) (by omega) (by omega); omega
    rw [List.length_cons, sm_shift]
    have e0 : dbf (tD (t :: ts)) (tC (t :: ts)) (tP (t :: ts)) n 0 = jobsP n t * t.w := by
      show (if t.d ≤ n then (1 + (n - t.d) / t.p) * t.w else 0) = _
      unfold jobsP
      by_cases h : t.d ≤ n
      · rw [if_pos h, if_neg (by omega)]
      · rw [if_neg h, if_pos (by omega)]; simp
    have e1 : sm (fun i => dbf (tD (t :: ts)) (tC (t :: ts)) (tP (t :: ts)) n (i + 1)) ts.length = sm (dbf (tD ts) (tC ts) (tP ts) n) ts.length := sm_eq fun i hi => rfl
    rw [e0, e1]
    show _ ≤ (jobsP n t * (t.w + m) :: askP (jobsP n) ts a).sum
    rw [List.sum_cons]
    have : jobsP n t * t.w ≤ jobsP n t * (t.w + m) := Int.mul_le_mul_of_nonneg_left (by omega) hj
    omega

/-- Of a partition that passes, tasks ask for no more than its server gives. -/
theorem pass_gives {l : List Pt} (h : delCheck l = 0) {i : Nat} (hi : i < l.length) (hpass : (testS l (i : Nat)).2 = 0) (n : Nat) (hn : n ≤ 1048576) (hpos : 0 < sm (dbf (tD l[i].ts) (tC l[i].ts) (tP l[i].ts) ((n : Nat) : Int)) l[i].ts.length) :
    sm (dbf (tD l[i].ts) (tC l[i].ts) (tP l[i].ts) ((n : Nat) : Int)) l[i].ts.length ≤ givesS l[i].per l[i].bud ((n : Nat) : Int) := by
  obtain ⟨h1, h2⟩ := slack_plain h hi (n := ((n : Nat) : Int)) (by omega) (by omega)
  have h3 := dbf_ask (n := ((n : Nat) : Int)) (by omega) l[i].ts (moreL l i) (moreL_len hi) (okT_of h (List.getElem_mem hi)) (fun m hm => (moreL_in h i hi m hm).1)
  have h4 := pass_all h hi hpass n hn (by omega)
  have h5 := ofN_nonneg (l := l) (i : Nat) ((n : Nat) : Int) l[i].ts l[i].ts.length (Nat.le_refl _)
  omega

/- A row of ticks, period by period. -/
def gBit (x : Int) (i : Nat) : Bool := IntKind.i64.wrap ((BitVec.ofInt 64 (x.fdiv (2 ^ (min (i % 20) 64))) &&& BitVec.ofInt 64 1).toNat : Int) == 1
/-- Does the server run? -/
def gIs (P : Int) (x left : Int) (i : Nat) : Bool := decide (0 < left) && (decide (P - (i : Nat) ≤ left) || gBit x i)
def gStep (P x : Int) (s : List Bool × Int) (i : Nat) : List Bool × Int := (s.1 ++ [gIs P x s.2 i], if gIs P x s.2 i = true then s.2 - 1 else s.2)
def gIn (P x : Int) (s : List Bool × Int) : Nat → List Bool × Int
  | 0 => s
  | i + 1 => gStep P x (gIn P x s i) i
/-- The number that is drawn for a period. -/
def gDraw (how : List Int) (P : Int) (n : Nat) : Int := match how with
  | [] => 0
  | a :: r => ((a :: r).getD ((((n : Nat) : Int) / P % ((a :: r).length : Nat)).toNat) 0) % 1048576
def gRow (how : List Int) (P B : Int) : Nat → List Bool
  | 0 => []
  | q + 1 => (gIn P (gDraw how P (gRow how P B q).length) (gRow how P B q, B) P.toNat).1
def cntT : List Bool → Int
  | [] => 0
  | b :: l => (if b = true then 1 else 0) + cntT l
theorem cntT_app : ∀ l m : List Bool, cntT (l ++ m) = cntT l + cntT m
  | [], m => by simp [cntT]
  | b :: l, m => by simp only [List.cons_append, cntT, cntT_app l m]; omega
theorem gIn_is (P x B : Int) (R : List Bool) (hB : 0 ≤ B ∧ B ≤ P) : ∀ i : Nat, (i : Int) ≤ P → ∃ W : List Bool, (gIn P x (R, B) i).1 = R ++ W ∧ W.length = i ∧ cntT W = B - (gIn P x (R, B) i).2 ∧ 0 ≤ (gIn P x (R, B) i).2 ∧ (gIn P x (R, B) i).2 ≤ P - (i : Nat) ∧ (gIn P x (R, B) i).2 ≤ B
  | 0, _ => ⟨[], by simp [gIn], rfl, by simp [gIn, cntT], hB.1, by simp [gIn]; exact hB.2, Int.le_refl _⟩
  | i + 1, h => by
    obtain ⟨W, h1, h2, h3, h4, h5, h6⟩ := gIn_is P x B R hB i (by omega)
    rw [gIn]
    generalize gIn P x (R, B) i = s at *
    obtain ⟨s1, s2⟩ := s
    simp only at h1 h3 h4 h5 h6
    refine ⟨W ++ [gIs P x s2 i], by simp only [gStep, h1, List.append_assoc], by simp [h2], ?_⟩
    rw [cntT_app]
    simp only [gStep, cntT]
    have hc : P - (i : Nat) ≤ s2 → 0 < s2 → gIs P x s2 i = true := fun h1 h2 => by simp [gIs, h1, h2]
    have hp : gIs P x s2 i = true → 0 < s2 := fun h => by simp [gIs] at h; omega
    cases hg : gIs P x s2 i with
    | true =>
      have := hp hg
      simp only [if_true]
      omega
    | false =>
      simp only [Bool.false_eq_true, if_false]
      have : ¬ (P - (i : Nat) ≤ s2 ∧ 0 < s2) := fun h => by rw [hc h.1 h.2] at hg; cases hg
      omega
theorem gRow_next (how : List Int) (P B : Int) (hB : 0 ≤ B ∧ B ≤ P) (q : Nat) : ∃ W : List Bool, gRow how P B (q + 1) = gRow how P B q ++ W ∧ W.length = P.toNat ∧ cntT W = B := by
  obtain ⟨W, h1, h2, h3, h4, h5, h6⟩ := gIn_is P (gDraw how P (gRow how P B q).length) B (gRow how P B q) hB P.toNat (by omega)
  exact ⟨W, h1, h2, by omega⟩
theorem gRow_len (how : List Int) (P B : Int) (hB : 0 ≤ B ∧ B ≤ P) : ∀ q, (gRow how P B q).length = q * P.toNat
  | 0 => by simp [gRow]
  | q + 1 => by
    obtain ⟨W, h1, h2, -⟩ := gRow_next how P B hB q
    rw [h1, List.length_append, gRow_len how P B hB q, h2, Nat.succ_mul]

def runsOf (W : List Bool) (u : Nat) : Bool := W.getD u false
theorem gs_row : ∀ (R W T : List Bool), gs (runsOf (R ++ W ++ T)) R.length W.length = cntT W
  | R, [], T => rfl
  | R, b :: W, T => by
    have ih := gs_row (R ++ [b]) W T
    have e : R ++ [b] ++ W ++ T = R ++ (b :: W) ++ T := by simp
    rw [e] at ih
    have h1 := gs_add (runsOf (R ++ (b :: W) ++ T)) R.length 1 W.length
    rw [List.length_cons, show W.length + 1 = 1 + W.length by omega, h1]
    have h2 : gs (runsOf (R ++ (b :: W) ++ T)) R.length 1 = if b = true then 1 else 0 := by
      have : runsOf (R ++ (b :: W) ++ T) R.length = b := by
        rw [runsOf, List.getD_eq_getElem?_getD, List.append_assoc, List.getElem?_append_right (Nat.le_refl _)]
        simp
      show (0 : Int) + (if runsOf (R ++ (b :: W) ++ T) (R.length + 0) = true then 1 else 0) = _
      simp only [Nat.add_zero, this, Int.zero_add]
    rw [h2, cntT]
    rw [List.length_append] at ih
    rw [← ih]
    rfl
theorem gRow_pre (how : List Int) (P B : Int) (hB : 0 ≤ B ∧ B ≤ P) (q : Nat) : ∀ k, ∃ T, gRow how P B (q + k) = gRow how P B q ++ T
  | 0 => ⟨[], by simp⟩
  | k + 1 => by
    obtain ⟨T, h⟩ := gRow_pre how P B hB q k
    obtain ⟨W, h1, -⟩ := gRow_next how P B hB (q + k)
    exact ⟨T ++ W, by rw [← Nat.add_assoc, h1, h, List.append_assoc]⟩
/-- Each period has its budget. -/
theorem gRow_blocks (how : List Int) (P B Q : Nat) (hB : B ≤ P) (hP : 1 ≤ P) : ∀ q, (q + 1) * P ≤ (gRow how P B Q).length → gs (runsOf (gRow how P B Q)) (q * P) P = (B : Nat) := by
  intro q hq
  have hb : (0 : Int) ≤ (B : Nat) ∧ ((B : Nat) : Int) ≤ (P : Nat) := by omega
  have hl := fun q => gRow_len how (P : Nat) (B : Nat) hb q
  simp only [Int.toNat_natCast] at hl
  rw [hl] at hq
  have hqQ : q + 1 ≤ Q := by
    by_cases h : q + 1 ≤ Q
    · exact h
    · have := Nat.mul_le_mul_right P (show Q + 1 ≤ q + 1 by omega)
      rw [Nat.succ_mul] at this
      omega
  obtain ⟨W, h1, h2, h3⟩ := gRow_next how (P : Nat) (B : Nat) hb q
  obtain ⟨T, h4⟩ := gRow_pre how (P : Nat) (B : Nat) hb (q + 1) (Q - (q + 1))
  rw [show q + 1 + (Q - (q + 1)) = Q by omega, h1] at h4
  have := gs_row (gRow how (P : Nat) (B : Nat) q) W T
  rw [hl, h2, h3, ← h4] at this
  simpa using this
end Ir
end Go.Proofs.Ytlndlbngfgaoeaa
set_option maxRecDepth 100000
set_option linter.unusedSimpArgs false
set_option linter.unusedVariables false
namespace Go.Proofs.Ytlndlbngfgaoeaa
open Go Ads
namespace Ir
open Edf

/-- Jobs (deadline, ticks left), the next releases, how many were drawn. -/
structure LS where
  j : List (Int × Int)
  n : List Int
  d : Nat
def jE (J : List (Int × Int)) (i : Nat) : Int := (J.getD i (0, 0)).1
def jL (J : List (Int × Int)) (i : Nat) : Int := (J.getD i (0, 0)).2
def nX (n : List Int) (i : Nat) : Int := n.getD i 0
theorem jE_eq {J : List (Int × Int)} {i : Nat} (h : i < J.length) : jE J i = J[i].1 := by rw [jE, List.getD_eq_getElem?_getD, List.getElem?_eq_getElem h]; rfl
theorem jL_eq {J : List (Int × Int)} {i : Nat} (h : i < J.length) : jL J i = J[i].2 := by rw [jL, List.getD_eq_getElem?_getD, List.getElem?_eq_getElem h]; rfl
theorem nX_eq {n : List Int} {i : Nat} (h : i < n.length) : nX n i = n[i] := by rw [nX, List.getD_eq_getElem?_getD, List.getElem?_eq_getElem h]; rfl
theorem jE_set {J : List (Int × Int)} {k : Nat} (h : k < J.length) (x : Int × Int) (i : Nat) : jE (J.set k x) i = if i = k then x.1 else jE J i := by
  simp only [jE, List.getD_eq_getElem?_getD, List.getElem?_set]
  by_cases hi : i = k
  · subst hi; simp [h]
  · rw [if_neg (by omega), if_neg hi]
theorem jL_set {J : List (Int × Int)} {k : Nat} (h : k < J.length) (x : Int × Int) (i : Nat) : jL (J.set k x) i = if i = k then x.2 else jL J i := by
  simp only [jL, List.getD_eq_getElem?_getD, List.getElem?_set]
  by_cases hi : i = k
  · subst hi; simp [h]
  · rw [if_neg (by omega), if_neg hi]
theorem nX_set {n : List Int} {k : Nat} (h : k < n.length) (x : Int) (i : Nat) : nX (n.set k x) i = if i = k then x else nX n i := by
  simp only [nX, List.getD_eq_getElem?_getD, List.getElem?_set]
  by_cases hi : i = k
  · subst hi; simp [h]
  · rw [if_neg (by omega), if_neg hi]

/-- How much later the next job is released. -/
def extra (md : Int) (lt : List Int) (d : Nat) : Int := match lt with
  | [] => 0
  | a :: r => ((a :: r).getD (d % (a :: r).length) 0) % md
theorem extra_in {md : Int} (h : 0 < md) (lt : List Int) (d : Nat) : 0 ≤ extra md lt d ∧ extra md lt d < md := by
  unfold extra
  split
  · omega
  · exact ⟨Int.emod_nonneg _ (by omega), Int.emod_lt_of_pos _ h⟩

section
variable (md : Int) (ts : List Tk) (lt : List Int)
def relOne (u : Nat) (S : LS) (i : Nat) : LS := if nX S.n i ≤ (u : Nat) then ⟨S.j.set i (((u : Nat) : Int) + tD ts i, tC ts i), S.n.set i (((u : Nat) : Int) + tP ts i + extra md lt S.d), S.d + 1⟩ else S
def relN (u : Nat) (S : LS) : Nat → LS
  | 0 => S
  | i + 1 => relOne md ts lt u (relN u S i) i
def pickN (J : List (Int × Int)) : Nat → Int
  | 0 => -1
  | i + 1 => if 0 < jL J i ∧ (pickN J i < 0 ∨ jE J i < jE J (pickN J i).toNat) then ((i : Nat) : Int) else pickN J i
def execS (m : Nat) (J : List (Int × Int)) (run : Bool) : List (Int × Int) := if run = true ∧ 0 ≤ pickN J m then J.set (pickN J m).toNat (jE J (pickN J m).toNat, jL J (pickN J m).toNat - 1) else J
def stepS (runs : Nat → Bool) (u : Nat) (S : LS) : LS := ⟨execS ts.length (relN md ts lt u S ts.length).j (runs u), (relN md ts lt u S ts.length).n, (relN md ts lt u S ts.length).d⟩
def St (runs : Nat → Bool) : Nat → LS
  | 0 => ⟨List.replicate ts.length (0, 0), List.replicate ts.length 0, 0⟩
  | u + 1 => stepS md ts lt runs u (St runs u)
end

def LSok (m : Nat) (S : LS) : Prop := S.j.length = m ∧ S.n.length = m
section
variable {md : Int} {ts : List Tk} {lt : List Int}
theorem relOne_ok {m u i : Nat} {S : LS} (h : LSok m S) : LSok m (relOne md ts lt u S i) := by
  unfold relOne
  split
  · exact ⟨by simpa using h.1, by simpa using h.2⟩
  · exact h
theorem relN_ok {m u : Nat} {S : LS} (h : LSok m S) : ∀ i, LSok m (relN md ts lt u S i)
  | 0 => h
  | i + 1 => relOne_ok (relN_ok h i)
theorem relN_d {u : Nat} {S : LS} : ∀ i, (relN md ts lt u S i).d ≤ S.d + i
  | 0 => Nat.le_refl _
  | i + 1 => by
    have := relN_d (u := u) (S := S) i
    rw [relN, relOne]
    split
    · show _ + 1 ≤ _; omega
    · omega
/-- What a task has behind the releases of the first ones. -/
theorem relN_get {m u : Nat} {S : LS} (hmd : 0 < md) (h : LSok m S) (i : Nat) : ∀ k, k ≤ m →
    (jE (relN md ts lt u S k).j i = if i < k ∧ nX S.n i ≤ (u : Nat) then ((u : Nat) : Int) + tD ts i else jE S.j i) ∧
    (jL (relN md ts lt u S k).j i = if i < k ∧ nX S.n i ≤ (u : Nat) then tC ts i else jL S.j i) ∧
    ((i < k ∧ nX S.n i ≤ (u : Nat) → ((u : Nat) : Int) + tP ts i ≤ nX (relN md ts lt u S k).n i) ∧ (¬ (i < k ∧ nX S.n i ≤ (u : Nat)) → nX (relN md ts lt u S k).n i = nX S.n i))
  | 0, _ => by
    refine ⟨by rw [if_neg (by omega)]; rfl, by rw [if_neg (by omega)]; rfl, fun h => by omega, fun _ => rfl⟩
  | k + 1, hk => by
    obtain ⟨h1, h2, h3, h4⟩ := relN_get (u := u) hmd h i k (by omega)
    have hok := relN_ok (md := md) (ts := ts) (lt := lt) (u := u) h k
    have hnk : ∀ (hik : i = k), nX (relN md ts lt u S k).n i = nX S.n i := fun hik => h4 (by omega)
    rw [relN]
    generalize relN md ts lt u S k = R at *
    unfold relOne
    have hex := extra_in hmd lt R.d
    by_cases hn : nX R.n k ≤ (u : Nat)
    · rw [if_pos hn]
      simp only
      rw [jE_set (by rw [hok.1]; omega), jL_set (by rw [hok.1]; omega), nX_set (by rw [hok.2]; omega)]
      by_cases hik : i = k
      · subst hik
        have := hnk rfl
        rw [if_pos rfl, if_pos rfl, if_pos rfl, if_pos (by omega), if_pos (by omega)]
        exact ⟨rfl, rfl, fun _ => by omega, fun hh => by omega⟩
      · rw [if_neg hik, if_neg hik, if_neg hik, h1, h2]
        have e : (i < k + 1 ∧ nX S.n i ≤ (u : Nat)) ↔ (i < k ∧ nX S.n i ≤ (u : Nat)) := by omega
        simp only [e]
        exact ⟨trivial, trivial, h3, h4⟩
    · rw [if_neg hn]
      by_cases hik : i = k
      · subst hik
        have := hnk rfl
        rw [h1, h2, if_neg (by omega), if_neg (by omega), if_neg (by omega), if_neg (by omega)]
        exact ⟨rfl, rfl, fun hh => by omega, fun _ => hnk rfl⟩
      · rw [h1, h2]
        have e : (i < k + 1 ∧ nX S.n i ≤ (u : Nat)) ↔ (i < k ∧ nX S.n i ≤ (u : Nat)) := by omega
        simp only [e]
        exact ⟨trivial, trivial, h3, h4⟩
theorem pick_is (J : List (Int × Int)) : ∀ m, (pickN J m < 0 ∧ ∀ i, i < m → jL J i ≤ 0) ∨ ∃ k : Nat, pickN J m = (k : Nat) ∧ k < m ∧ 0 < jL J k ∧ ∀ i, i < m → 0 < jL J i → jE J k ≤ jE J i
  | 0 => .inl ⟨by show (-1 : Int) < 0; decide, fun i hi => by omega⟩
  | m + 1 => by
    rw [pickN]
    rcases pick_is J m with ⟨h1, h2⟩ | ⟨k, h1, h2, h3, h4⟩
    · by_cases hl : 0 < jL J m
      · rw [if_pos ⟨hl, .inl h1⟩]
        refine .inr ⟨m, rfl, by omega, hl, fun i hi hil => ?_⟩
        by_cases him : i = m
        · subst him; exact Int.le_refl _
        · have := h2 i (by omega); omega
      · rw [if_neg (fun h => hl h.1)]
        refine .inl ⟨h1, fun i hi => ?_⟩
        by_cases him : i = m
        · subst him; omega
        · exact h2 i (by omega)
    · rw [h1, show ((k : Nat) : Int).toNat = k by simp]
      by_cases hl : 0 < jL J m ∧ (((k : Nat) : Int) < 0 ∨ jE J m < jE J k)
      · rw [if_pos hl]
        have hlt : jE J m < jE J k := by
          rcases hl.2 with h | h
          · omega
          · exact h
        refine .inr ⟨m, rfl, by omega, hl.1, fun i hi hil => ?_⟩
        by_cases him : i = m
        · subst him; exact Int.le_refl _
        · have := h4 i (by omega) hil; omega
      · rw [if_neg hl]
        refine .inr ⟨k, rfl, by omega, h3, fun i hi hil => ?_⟩
        by_cases him : i = m
        · subst him
          by_cases h : jE J i < jE J k
          · exact absurd ⟨hil, .inr h⟩ hl
          · omega
        · exact h4 i (by omega) hil
theorem exec_len (m : Nat) (J : List (Int × Int)) (run : Bool) : (execS m J run).length = J.length := by
  unfold execS
  split
  · simp
  · rfl
theorem St_ok {runs : Nat → Bool} : ∀ u, LSok ts.length (St md ts lt runs u)
  | 0 => ⟨by simp [St], by simp [St]⟩
  | u + 1 => by
    have h := relN_ok (md := md) (ts := ts) (lt := lt) (u := u) (St_ok (runs := runs) u) ts.length
    exact ⟨by show (execS _ _ _).length = _; rw [exec_len]; exact h.1, h.2⟩
theorem St_d {runs : Nat → Bool} : ∀ u, (St md ts lt runs u).d ≤ u * ts.length
  | 0 => by simp [St]
  | u + 1 => by
    have h1 := St_d (runs := runs) u
    have h2 := relN_d (md := md) (ts := ts) (lt := lt) (u := u) (S := St md ts lt runs u) ts.length
    rw [Nat.succ_mul]
    show (relN md ts lt u (St md ts lt runs u) ts.length).d ≤ _
    omega

theorem tk_get {ts : List Tk} {i : Nat} (h : i < ts.length) : ts.getD i tk0 = ts[i] := by rw [List.getD_eq_getElem?_getD, List.getElem?_eq_getElem h]; rfl
theorem play {runs : Nat → Bool} {N : Nat} (hmd : 0 < md) (ho : ∀ t, t ∈ ts → OkT t) : Play ts.length (tD ts) (tC ts) (tP ts) runs (fun u i => jE (St md ts lt runs u).j i) (fun u i => jL (St md ts lt runs u).j i) (fun u i => nX (St md ts lt runs u).n i) N where
  task := fun i hi => by
    obtain ⟨o1, o2, o3, o4⟩ := ho _ (List.getElem_mem hi)
    show 1 ≤ (ts.getD i tk0).w ∧ (ts.getD i tk0).d ≤ (ts.getD i tk0).p ∧ 1 ≤ (ts.getD i tk0).p
    rw [tk_get hi]
    omega
  init := fun i hi => by
    show jL (List.replicate ts.length (0, 0)) i = 0
    rw [jL_eq (by simpa using hi)]
    simp
  ends := fun u hu i hi => by
    obtain ⟨h1, h2, h3, h4⟩ := relN_get (u := u) (lt := lt) (ts := ts) hmd (St_ok (md := md) (ts := ts) (lt := lt) (runs := runs) u) i ts.length (Nat.le_refl _)
    have hok := relN_ok (md := md) (ts := ts) (lt := lt) (u := u) (St_ok (md := md) (ts := ts) (lt := lt) (runs := runs) u) ts.length
    show jE (execS ts.length (relN md ts lt u (St md ts lt runs u) ts.length).j (runs u)) i = eR _ _ _ u i
    have : jE (execS ts.length (relN md ts lt u (St md ts lt runs u) ts.length).j (runs u)) i = jE (relN md ts lt u (St md ts lt runs u) ts.length).j i := by
      unfold execS
      split
      · rename_i hp
        rcases pick_is (relN md ts lt u (St md ts lt runs u) ts.length).j ts.length with ⟨q1, -⟩ | ⟨k, q1, q2, -⟩
        · omega
        · rw [q1, show ((k : Nat) : Int).toNat = k by simp, jE_set (by rw [hok.1]; exact q2)]
          by_cases hik : i = k
          · rw [if_pos hik, hik]
          · rw [if_neg hik]
      · rfl
    rw [this, h1]
    unfold eR
    by_cases hn : nX (St md ts lt runs u).n i ≤ (u : Nat)
    · rw [if_pos ⟨hi, hn⟩, if_pos hn]
    · rw [if_neg (fun h => hn h.2), if_neg hn]
  next1 := fun u hu i hi hn => (relN_get (u := u) (lt := lt) (ts := ts) hmd (St_ok (md := md) (ts := ts) (lt := lt) (runs := runs) u) i ts.length (Nat.le_refl _)).2.2.1 ⟨hi, hn⟩
  next2 := fun u hu i hi hn => (relN_get (u := u) (lt := lt) (ts := ts) hmd (St_ok (md := md) (ts := ts) (lt := lt) (runs := runs) u) i ts.length (Nat.le_refl _)).2.2.2 (fun h => hn h.2)
  idle := fun u hu hr i hi => by
    have hL : ∀ i, i < ts.length → jL (relN md ts lt u (St md ts lt runs u) ts.length).j i = lR (tC ts) (fun u i => jL (St md ts lt runs u).j i) (fun u i => nX (St md ts lt runs u).n i) u i := by
      intro i hi
      obtain ⟨h1, h2, h3, h4⟩ := relN_get (u := u) (lt := lt) (ts := ts) hmd (St_ok (md := md) (ts := ts) (lt := lt) (runs := runs) u) i ts.length (Nat.le_refl _)
      rw [h2]
      unfold lR
      by_cases hn : nX (St md ts lt runs u).n i ≤ (u : Nat)
      · rw [if_pos ⟨hi, hn⟩, if_pos hn]
      · rw [if_neg (fun h => hn h.2), if_neg hn]
    show jL (execS ts.length (relN md ts lt u (St md ts lt runs u) ts.length).j (runs u)) i = _
    rw [← hL i hi]
    unfold execS
    split
    · rename_i hp
      rcases pick_is (relN md ts lt u (St md ts lt runs u) ts.length).j ts.length with ⟨q1, -⟩ | ⟨k, q1, q2, q3, -⟩
      · omega
      · rcases hr with hr | hr
        · rw [hr] at hp; exact absurd hp.1 (by decide)
        · have := hr k q2
          rw [← hL k q2] at this
          omega
    · rfl
  run := fun u hu hr hex => by
    have hL : ∀ i, i < ts.length → jL (relN md ts lt u (St md ts lt runs u) ts.length).j i = lR (tC ts) (fun u i => jL (St md ts lt runs u).j i) (fun u i => nX (St md ts lt runs u).n i) u i ∧
        jE (relN md ts lt u (St md ts lt runs u) ts.length).j i = eR (tD ts) (fun u i => jE (St md ts lt runs u).j i) (fun u i => nX (St md ts lt runs u).n i) u i := by
      intro i hi
      obtain ⟨h1, h2, h3, h4⟩ := relN_get (u := u) (lt := lt) (ts := ts) hmd (St_ok (md := md) (ts := ts) (lt := lt) (runs := runs) u) i ts.length (Nat.le_refl _)
      rw [h1, h2]
      unfold lR eR
      by_cases hn : nX (St md ts lt runs u).n i ≤ (u : Nat)
      · rw [if_pos ⟨hi, hn⟩, if_pos hn, if_pos ⟨hi, hn⟩, if_pos hn]; exact ⟨rfl, rfl⟩
      · rw [if_neg (fun h => hn h.2), if_neg hn, if_neg (fun h => hn h.2), if_neg hn]; exact ⟨rfl, rfl⟩
    have hok := relN_ok (md := md) (ts := ts) (lt := lt) (u := u) (St_ok (md := md) (ts := ts) (lt := lt) (runs := runs) u) ts.length
    rcases pick_is (relN md ts lt u (St md ts lt runs u) ts.length).j ts.length with ⟨q1, q2⟩ | ⟨k, q1, q2, q3, q4⟩
    · obtain ⟨i, hi, hpos⟩ := hex
      have := q2 i hi
      rw [(hL i hi).1] at this
      omega
    · refine ⟨k, q2, by rw [← (hL k q2).1]; exact q3, fun i hi hpos => ?_, fun i hi => ?_⟩
      · rw [← (hL k q2).2, ← (hL i hi).2]
        exact q4 i hi (by rw [(hL i hi).1]; exact hpos)
      · show jL (execS ts.length (relN md ts lt u (St md ts lt runs u) ts.length).j (runs u)) i = _
        rw [← (hL i hi).1, execS, if_pos ⟨hr, by omega⟩, q1, show ((k : Nat) : Int).toNat = k by simp, jL_set (by rw [hok.1]; exact q2)]
        by_cases hik : i = k
        · subst hik; rw [if_pos rfl, if_pos rfl]
        · rw [if_neg hik, if_neg hik]; omega
end
end Ir
end Go.Proofs.Ytlndlbngfgaoeaa
