/-
  Ready: a queue in a heap.
-/
import Derived.Test.YtenafeojcgmnhaaVRdJ
set_option maxRecDepth 100000
set_option linter.unusedSimpArgs false
set_option linter.unusedVariables false
namespace Go.Proofs.Ytenafeojcgmnhaa
open Go Ads
namespace Ir

structure QAt (h : Heap) (q : Nat) (S : List Nat) (n : Int) (L : List Id) : Prop where
  ex : ∃ k p S' P, S = q :: S' ∧ q ∉ S' ∧ RAt h k p S' L P ∧ h.get q = some (.cells [.ptr k 0, .int .i64 n] true 0) ∧ q < h.next
  n4 : n ≤ 4
  ids : ∀ y ∈ L, (y.1 : Int) < n
theorem QAt.own {h : Heap} {q : Nat} {S : List Nat} {n : Int} {L : List Id} (hq : QAt h q S n L) : ∀ b ∈ S, b < h.next := by
  obtain ⟨k, p, S', P, rfl, hn, hr, hg, hl⟩ := hq.ex
  intro b hb
  rcases List.mem_cons.1 hb with rfl | hb
  · exact hl
  · exact hr.own.2.2 b hb
theorem QAt.dst {h : Heap} {q : Nat} {S : List Nat} {n : Int} {L : List Id} (hq : QAt h q S n L) : Dst L := by
  obtain ⟨k, p, S', P, rfl, hn, hr, hg, hl⟩ := hq.ex
  exact hr.pl.dist
theorem QAt.uniq {h : Heap} {q : Nat} {S : List Nat} {n : Int} {L : List Id} (hq : QAt h q S n L) {x y : Id} (hx : x ∈ L) (hy : y ∈ L) (e : x.1 = y.1) : x = y := by
  obtain ⟨k, p, S', P, rfl, hn, hr, hg, hl⟩ := hq.ex
  exact hr.pl.uniq hx hy e
theorem RAt.few {h : Heap} {k p : Nat} {S : List Nat} {L : List Id} {P : Nat → Nat} (hr : RAt h k p S L P) {n : Int} (h4 : n ≤ 4) (hi : ∀ y ∈ L, (y.1 : Int) < n) : L.length ≤ 4 :=
  hr.pl.len fun y hy => by have := hi y hy; omega
/-- A queue stays when others change. -/
theorem RAt.keep {h h' : Heap} {k p : Nat} {S T : List Nat} {L : List Id} {P : Nat → Nat} (hr : RAt h k p S L P) (fr : Fr h h' T) (hd : ∀ b ∈ S, b ∉ T) : RAt h' k p S L P := by
  obtain ⟨kS, pS, hS⟩ := hr.own
  refine ⟨by rw [fr.keep k hr.lk (hd k kS)]; exact hr.hk, hr.ne, Nat.lt_of_lt_of_le hr.lk fr.next, Nat.lt_of_lt_of_le hr.lp fr.next, ?_, hr.pl, hr.hp⟩
  rcases hr.row with ⟨h1, h2, h3⟩ | ⟨r, cap, rest, h1, h2, h3, h4⟩
  · exact .inl ⟨h1, h2, by rw [fr.keep p hr.lp (hd p pS)]; exact h3⟩
  · have rS : r ∈ S := by rw [h1]; simp
    exact .inr ⟨r, cap, rest, h1, h2, h3, ⟨by rw [fr.keep p hr.lp (hd p pS)]; exact h4.hp, by rw [fr.keep r h4.lr (hd r rS)]; exact h4.hr, h4.ne, Nat.lt_of_lt_of_le h4.lp fr.next, Nat.lt_of_lt_of_le h4.lr fr.next⟩⟩
theorem QAt.keep {h h' : Heap} {q : Nat} {S T : List Nat} {n : Int} {L : List Id} (hq : QAt h q S n L) (fr : Fr h h' T) (hd : ∀ b ∈ S, b ∉ T) : QAt h' q S n L := by
  obtain ⟨k, p, S', P, rfl, hn, hr, hg, hl⟩ := hq.ex
  exact ⟨⟨k, p, S', P, rfl, hn, hr.keep fr fun b hb => hd b (List.mem_cons_of_mem _ hb), by rw [fr.keep q hl (hd q List.mem_cons_self)]; exact hg, Nat.lt_of_lt_of_le hl fr.next⟩, hq.n4, hq.ids⟩

theorem rnew_o {h : Heap} {Q : AV → Heap → Prop} (hQ : ∀ h' k p, RAt h' k p [k, p] [] (fun _ => 0) → h.next ≤ k → h.next ≤ p → Fr h h' [] → Q (.ptr k 0) h') : VD fs ms f_rank_New [] h Q := by
  refine vd_start (af := C_rank_New) true rfl (Nat.le_of_ble_eq_true rfl) ?_
  set_option smartUnfolding false in conv => whnf
  refine hQ _ (h.next + 1) h.next ⟨?_, by omega, ?_, ?_, .inl ⟨rfl, rfl, ?_⟩, ?_, ?_⟩ (by omega) (by omega) ((Fr.refl h []).new.new)
  · exact get_new_same (h := h.new _)
  · exact Nat.lt_succ_self _
  · show h.next < h.next + 1 + 1; omega
  · refine (get_new_ne (h := h.new _) (Nat.lt_succ_self _)).trans (get_new_same.trans ?_)
    rfl
  · refine ⟨?_, ?_, ?_⟩
    · intro i hi; simp at hi
    · intro i hi; simp at hi
    · intro d _ hd; simp at hd
  · intro i _ hi; simp at hi
/-- The least one. -/
def IsFst (L : List Id) (x : Id) : Prop := x ∈ L ∧ ∀ y ∈ L, ah y x = false
theorem hp_fst {L : List Id} (h : Hp L) (hl : 0 < L.length) : IsFst L (gI L 0) := by
  refine ⟨mem_gI.2 ⟨0, hl, rfl⟩, fun y hy => ?_⟩
  obtain ⟨i, hi, rfl⟩ := mem_gI.1 hy
  clear hy
  induction i using Nat.strongRecOn with
  | ind i ih =>
    rcases Nat.eq_zero_or_pos i with rfl | h0
    · rw [ah_not]; omega
    · exact ah_tt (h i h0 hi) (ih ((i - 1) / 2) (by omega) (by omega))
theorem IRow.read {lo : Nat} {h : Heap} {v : AV} {l : List Int} (hr : IRow lo h v l) : pV .lenS [v] = some (.int .i64 ((l.length : Nat) : Int)) ∧ ∀ i, i < l.length → ∃ b, pV (.iaddrS 1) [v, .int .i64 ((i : Nat) : Int)] = some (.ptr b (i * 1)) ∧ rV .load1 [.ptr b (i * 1)] h = some (.int .i64 (l.getD i 0)) := by
  rcases hr with ⟨rfl, rfl⟩ | ⟨b, h1, h2, rfl, h4⟩
  · exact ⟨rfl, fun i hi => by simp at hi⟩
  · refine ⟨rfl, fun i hi => ⟨b, ?_, ld1 h4 ?_⟩⟩
    · exact idx_slS3 hi
    · rw [Nat.mul_one, ints, List.getElem?_map, List.getD_eq_getElem?_getD, List.getElem?_eq_getElem hi]
      rfl
theorem idl_get {M : List Id} {i : Nat} (h : i < M.length) : (idl M).getD i 0 = ((gI M i).1 : Int) := by
  rw [List.getD_eq_getElem?_getD, idl, List.getElem?_map, List.getElem?_eq_getElem h, gI_eq h]
  rfl
def lat (M : List Id) (now : Int) : List Id := M.filter fun y => decide (y.2 ≤ now)
theorem lat_take {M : List Id} {now : Int} {i : Nat} (h : i < M.length) : idl (lat (M.take (i + 1)) now) = idl (lat (M.take i) now) ++ (if (gI M i).2 ≤ now then [((gI M i).1 : Int)] else []) := by
  rw [List.take_succ_eq_append_getElem h, gI_eq h, lat, List.filter_append, idl, List.map_append]
  congr 1
  by_cases hh : M[i].2 ≤ now <;> simp [hh]
def latE (q : Nat) (now : Int) (out v : AV) (N i : Nat) : List (Nat × AV) := [(0, .ptr q 0), (1, .int .i64 now), (4, out), (10, v), (11, .int .i64 ((N : Nat) : Int)), (12, .int .i64 ((i : Nat) : Int))]
theorem lat_len (M : List Id) (now : Int) : (lat M now).length ≤ M.length := List.length_filter_le ..
end Ir
end Go.Proofs.Ytenafeojcgmnhaa
