/-
  Rank: Remove, First, Key.
-/
import Derived.Test.YtenafeojcgmnhaaVRdF
set_option maxRecDepth 100000
set_option linter.unusedSimpArgs false
set_option linter.unusedVariables false
namespace Go.Proofs.Ytenafeojcgmnhaa
open Go Ads
namespace Ir

theorem cut_r {h : Heap} {k p : Nat} {S : List Nat} {L : List Id} {P : Nat → Nat} (hr : RAt h k p S L P) {a : Nat} (ha : a < L.length) {Q : AV → Heap → Prop}
    (hQ : ∀ h' S' L' P', RAt h' k p S' L' P' → L'.length + 1 = L.length → (∀ y, y ∈ L' ↔ y ∈ L ∧ y.1 ≠ (gI L a).1) → Own h h' S S' → Q (.tup []) h') : VD fs ms f_rank_heaped_cut [.ptr p 0, .int .i64 ((a : Nat) : Int)] h Q := by
  rcases hr.row with ⟨hL, _, _⟩ | ⟨r, cap, rest, hS, rk, hcap, hh⟩
  · subst hL
    simp at ha
  obtain ⟨M, x, rfl⟩ : ∃ M x, L = M ++ [x] := by
    rcases List.eq_nil_or_concat L with rfl | ⟨M, x, rfl⟩
    · simp at ha
    · exact ⟨M, x, by simp⟩
  have hl : (M ++ [x]).length = M.length + 1 := by simp
  have h64 := hr.pl.len64
  refine cut_o hh (by omega) (by omega) (by omega) hr.pl hr.hp fun h' L' P' hh' k1 k2 k3 k4 fr => ?_
  subst hS
  refine hQ h' [k, p, r] L' P' ⟨?_, hr.ne, Nat.lt_of_lt_of_le hr.lk fr.next, hh'.lp, .inr ⟨r, cap, _, rfl, rk, ?_, hh'⟩, k2, k3⟩ (by omega) k4 ⟨⟨fr.next, fun b hb hn => fr.keep b hb ?_⟩, fun b hb => .inl hb⟩
  · rw [fr.keep k hr.lk (by simp [hr.ne, Ne.symm rk])]; exact hr.hk
  · rw [List.length_append]
    have : (ob x).cells.length = 2 := rfl
    omega
  · simp at hn ⊢
    exact hn.2

theorem remove_o {h : Heap} {k p : Nat} {S : List Nat} {L : List Id} {P : Nat → Nat} (hr : RAt h k p S L P) (id : Int) {Q : AV → Heap → Prop} (h1 : (∀ y ∈ L, id ≠ (y.1 : Int)) → Q (.bool false) h)
    (h3 : ∀ y : Id, id = (y.1 : Int) → y ∈ L → ∀ h' S' L' P', RAt h' k p S' L' P' → (∀ z, z ∈ L' ↔ z ∈ L ∧ z.1 ≠ y.1) → Own h h' S S' → Q (.bool true) h') : VD fs ms f_rank_Rank_Remove [.ptr k 0, .int .i64 id] h Q := by
  refine vd_start (af := C_rank_Rank_Remove) true rfl (Nat.le_of_ble_eq_true rfl) ?_
  set_option smartUnfolding false in conv => whnf
  refine at_o hr id (fun hb => ?_) (fun i hi i64 h0 => ?_) fun i j hi i64 hj hP hid => ?_
  · set_option smartUnfolding false in conv => whnf
    refine h1 fun y hy e => ?_
    obtain ⟨i, hi, rfl⟩ := mem_gI.1 hy
    have := hr.pl.small i hi
    omega
  · set_option smartUnfolding false in conv => whnf
    refine h1 fun y hy e => ?_
    have := hr.pl.no h0 y hy
    omega
  · set_option smartUnfolding false in conv => whnf
    refine ⟨_, ld1 hr.hk rfl, ?_⟩
    set_option smartUnfolding false in conv => whnf
    refine cut_r hr hj fun h' S' L' P' r1 r2 r3 r4 => ?_
    set_option smartUnfolding false in conv => whnf
    exact h3 (gI L j) (by rw [hid]; exact hi) (mem_gI.2 ⟨j, hj, rfl⟩) h' S' L' P' r1 r3 r4

/-- The row as it is read. -/
theorem Row.len {h : Heap} {k p : Nat} {S : List Nat} {L : List Id} {P : Nat → Nat} (hr : Row h k p S L P) : ∃ rv, rV .load1 [.ptr p 0] h = some rv ∧ pV .lenS [rv] = some (.int .i64 ((L.length : Nat) : Int)) ∧ ∀ i, i < L.length → ∃ r, pV (.iaddrS 2) [rv, .int .i64 ((i : Nat) : Int)] = some (.ptr r (i * 2)) ∧ rV .load1 [.ptr r (i * 2)] h = some (.int .i64 ((gI L i).1 : Nat)) ∧ rV .load1 [.ptr r (i * 2 + 1)] h = some (.int .i64 (gI L i).2) := by
  rcases hr with ⟨hL, _, hg⟩ | ⟨r, cap, rest, _, _, _, hh⟩
  · subst hL
    exact ⟨.nils, ld1 hg rfl, rfl, fun i hi => by simp at hi⟩
  · exact ⟨_, hh.row, rfl, fun i hi => ⟨r, idx_slS3 hi, hh.id hi, hh.key hi⟩⟩

theorem first_o {h : Heap} {k p : Nat} {S : List Nat} {L : List Id} {P : Nat → Nat} (hr : RAt h k p S L P) {Q : AV → Heap → Prop} (h1 : L = [] → Q (.tup [.int .i64 0, .int .i64 0, .bool false]) h)
    (h2 : 0 < L.length → Q (.tup [.int .i64 ((gI L 0).1 : Nat), .int .i64 (gI L 0).2, .bool true]) h) : VD fs ms f_rank_Rank_First [.ptr k 0] h Q := by
  refine vd_start (af := C_rank_Rank_First) true rfl (Nat.le_of_ble_eq_true rfl) ?_
  set_option smartUnfolding false in conv => whnf
  obtain ⟨rv, l1, l2, l3⟩ := hr.row.len
  refine none_o hr ?_
  set_option smartUnfolding false in conv => whnf
  refine ⟨_, ld1 hr.hk rfl, ?_⟩
  set_option smartUnfolding false in conv => whnf
  refine ⟨_, l1, ?_⟩
  set_option smartUnfolding false in conv => whnf
  refine op_some l2 ?_
  set_option smartUnfolding false in conv => whnf
  refine br (fun hc => ?_) (fun hc => ?_) <;> (try rw [hc]) <;> (set_option smartUnfolding false in conv => whnf)
  · refine h1 (List.eq_nil_of_length_eq_zero ?_)
    simp at hc
    simp [hc]
  · have hl : 0 < L.length := by
      refine Nat.pos_of_ne_zero fun h0 => ?_
      simp [List.eq_nil_of_length_eq_zero h0] at hc
    obtain ⟨r, l4, l5, l6⟩ := l3 0 hl
    refine ⟨_, ld1 hr.hk rfl, ?_⟩
    set_option smartUnfolding false in conv => whnf
    refine ⟨_, l1, ?_⟩
    set_option smartUnfolding false in conv => whnf
    refine ⟨_, l4, ?_⟩
    set_option smartUnfolding false in conv => whnf
    refine ⟨_, l5, ?_⟩
    set_option smartUnfolding false in conv => whnf
    refine ⟨_, ld1 hr.hk rfl, ?_⟩
    set_option smartUnfolding false in conv => whnf
    refine ⟨_, l1, ?_⟩
    set_option smartUnfolding false in conv => whnf
    refine ⟨_, l4, ?_⟩
    set_option smartUnfolding false in conv => whnf
    refine ⟨_, l6, ?_⟩
    set_option smartUnfolding false in conv => whnf
    exact h2 hl

theorem key_o {h : Heap} {k p : Nat} {S : List Nat} {L : List Id} {P : Nat → Nat} (hr : RAt h k p S L P) (id : Int) {Q : AV → Heap → Prop} (h1 : (∀ y ∈ L, id ≠ (y.1 : Int)) → Q (.tup [.int .i64 0, .bool false]) h)
    (h2 : ∀ y : Id, id = (y.1 : Int) → y ∈ L → Q (.tup [.int .i64 y.2, .bool true]) h) : VD fs ms f_rank_Rank_Key [.ptr k 0, .int .i64 id] h Q := by
  refine vd_start (af := C_rank_Rank_Key) true rfl (Nat.le_of_ble_eq_true rfl) ?_
  set_option smartUnfolding false in conv => whnf
  refine at_o hr id (fun hb => ?_) (fun i hi i64 h0 => ?_) fun i j hi i64 hj hP hid => ?_
  · set_option smartUnfolding false in conv => whnf
    refine h1 fun y hy e => ?_
    obtain ⟨i, hi, rfl⟩ := mem_gI.1 hy
    have := hr.pl.small i hi
    omega
  · set_option smartUnfolding false in conv => whnf
    refine h1 fun y hy e => ?_
    have := hr.pl.no h0 y hy
    omega
  · set_option smartUnfolding false in conv => whnf
    obtain ⟨rv, l1, l2, l3⟩ := hr.row.len
    obtain ⟨r, l4, l5, l6⟩ := l3 j hj
    refine ⟨_, ld1 hr.hk rfl, ?_⟩
    set_option smartUnfolding false in conv => whnf
    refine ⟨_, l1, ?_⟩
    set_option smartUnfolding false in conv => whnf
    refine ⟨_, l4, ?_⟩
    set_option smartUnfolding false in conv => whnf
    refine ⟨_, l6, ?_⟩
    set_option smartUnfolding false in conv => whnf
    exact h2 (gI L j) (by rw [hid]; exact hi) (mem_gI.2 ⟨j, hj, rfl⟩)
end Ir
end Go.Proofs.Ytenafeojcgmnhaa
