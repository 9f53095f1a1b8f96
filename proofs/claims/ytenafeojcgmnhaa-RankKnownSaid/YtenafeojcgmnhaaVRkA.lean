/-
  Rank: Lower, Pop, Len.
-/
import Derived.Test.YtenafeojcgmnhaaVRdG
set_option maxRecDepth 100000
set_option linter.unusedSimpArgs false
set_option linter.unusedVariables false
namespace Go.Proofs.Ytenafeojcgmnhaa
open Go Ads
namespace Ir

theorem oc_setk : ∀ (L : List Id) (i : Nat) (_ : i < L.length) (k : Int) (rest : List AV), Heap.splice (oc L ++ rest) (i * 2 + 1) [.int .i64 k] = oc (L.set i ((gI L i).1, k)) ++ rest
  | y :: L, 0, _, k, rest => by
    show AV.int .i64 (y.1 : Nat) :: AV.int .i64 k :: Heap.splice (oc L ++ rest) 0 [] = AV.int .i64 (y.1 : Nat) :: AV.int .i64 k :: (oc L ++ rest)
    rw [splice_nil]
  | y :: L, i + 1, h, k, rest => by
    have ih := oc_setk L i (by simpa using h) k rest
    show Heap.splice (AV.int .i64 (y.1 : Nat) :: AV.int .i64 y.2 :: (oc L ++ rest)) ((i + 1) * 2 + 1) _ = AV.int .i64 (y.1 : Nat) :: AV.int .i64 y.2 :: (oc (L.set i ((gI L i).1, k)) ++ rest)
    rw [show (i + 1) * 2 + 1 = i * 2 + 1 + 1 + 1 by omega, ← ih]
    rfl
theorem low_plf {L : List Id} {P : Nat → Nat} (h : PlF L P) {j : Nat} (hj : j < L.length) (k : Int) : PlF (L.set j ((gI L j).1, k)) P := by
  have e : ∀ i, (gI (L.set j ((gI L j).1, k)) i).1 = (gI L i).1 := by
    intro i
    rw [gI_set hj]
    split
    · rename_i e; rw [e]
    · rfl
  refine ⟨fun i hi => ?_, fun i hi => ?_, fun d hd hp => ?_⟩
  · rw [e]; exact h.small i (by simpa using hi)
  · rw [e]; exact h.pl i (by simpa using hi)
  · rw [e, List.length_set]; exact h.back d hd hp
theorem low_hup {L : List Id} (h : Hp L) {j : Nat} (hj : j < L.length) {x : Id} : Hup (L.set j x) j := by
  refine ⟨fun i h0 hi h1 h2 => ?_, fun c h0 hc hp h1 => ?_⟩
  · rw [gI_ne hj h1, gI_ne hj h2]
    exact h i h0 (by simpa using hi)
  · rw [List.length_set] at hc
    rw [gI_ne hj (by omega), gI_ne hj (by omega)]
    have k1 := h c h0 hc
    have k2 := h j h1 hj
    rw [hp] at k1
    exact ah_tt k1 k2
theorem low_hch {L : List Id} (h : Hp L) {j : Nat} (hj : j < L.length) {k : Int} (hk : k ≤ (gI L j).2) : Hch (L.set j ((gI L j).1, k)) j := by
  intro c h0 hc hp
  rw [List.length_set] at hc
  rw [gI_ne hj (by omega), gI_at hj]
  have k1 := h c h0 hc
  rw [hp, ah_not] at k1
  rw [ah_not]
  simp only
  omega
theorem low_mem {L : List Id} {P : Nat → Nat} (h : PlF L P) {j : Nat} (hj : j < L.length) (k : Int) (z : Id) : z ∈ L.set j ((gI L j).1, k) ↔ (z ∈ L ∧ z.1 ≠ (gI L j).1) ∨ z = ((gI L j).1, k) := by
  rw [mem_gI, mem_gI]
  constructor
  · rintro ⟨i, hi, e⟩
    rw [List.length_set] at hi
    rw [gI_set hj] at e
    split at e
    · exact .inr e.symm
    · rename_i hne
      subst e
      exact .inl ⟨⟨i, hi, rfl⟩, fun e => hne (h.dist i j hi hj e)⟩
  · rintro (⟨⟨i, hi, e⟩, hne⟩ | rfl)
    · refine ⟨i, by rw [List.length_set]; exact hi, ?_⟩
      rw [gI_ne hj, e]
      rintro rfl
      rw [e] at hne
      exact hne rfl
    · exact ⟨j, by rw [List.length_set]; exact hj, gI_at hj⟩

theorem lower_o {h : Heap} {k p : Nat} {S : List Nat} {L : List Id} {P : Nat → Nat} (hr : RAt h k p S L P) (id key : Int) {Q : AV → Heap → Prop} (h1 : id < 0 ∨ 64 ≤ id → Q (.int .i64 9) h)
    (h2 : ¬ (id < 0 ∨ 64 ≤ id) → (∀ y ∈ L, id ≠ (y.1 : Int)) → Q (.int .i64 8) h)
    (h3 : ∀ y : Id, id = (y.1 : Int) → y ∈ L → y.2 < key → Q (.int .i64 2) h)
    (h4 : ∀ y : Id, id = (y.1 : Int) → y ∈ L → key ≤ y.2 → ∀ h' S' L' P', RAt h' k p S' L' P' → (∀ z, z ∈ L' ↔ (z ∈ L ∧ z.1 ≠ y.1) ∨ z = (y.1, key)) → Own h h' S S' → Q (.int .i64 0) h') : VD fs ms f_rank_Rank_Lower [.ptr k 0, .int .i64 id, .int .i64 key] h Q := by
  refine vd_start (af := C_rank_Rank_Lower) true rfl (Nat.le_of_ble_eq_true rfl) ?_
  set_option smartUnfolding false in conv => whnf
  refine asked_o hr id ?_
  set_option smartUnfolding false in conv => whnf
  by_cases hb : id < 0 ∨ 64 ≤ id
  · rw [if_pos hb]
    set_option smartUnfolding false in conv => whnf
    exact h1 hb
  rw [if_neg hb]
  set_option smartUnfolding false in conv => whnf
  refine at_o hr id (fun h => absurd h hb) (fun i hi i64 h0 => ?_) fun i j hi i64 hj hP hid => ?_
  · set_option smartUnfolding false in conv => whnf
    refine h2 hb fun y hy e => ?_
    have := hr.pl.no h0 y hy
    omega
  · set_option smartUnfolding false in conv => whnf
    have hyL : gI L j ∈ L := mem_gI.2 ⟨j, hj, rfl⟩
    have hidy : id = ((gI L j).1 : Int) := by rw [hid]; exact hi
    rcases hr.row with ⟨hL, _, _⟩ | ⟨r, cap, rest, hS, rk, hcap, hh⟩
    · subst hL; simp at hj
    refine ⟨_, ld1 hr.hk rfl, ?_⟩
    set_option smartUnfolding false in conv => whnf
    refine ⟨_, hh.row, ?_⟩
    set_option smartUnfolding false in conv => whnf
    refine ⟨_, idx_slS3 hj, ?_⟩
    set_option smartUnfolding false in conv => whnf
    refine ⟨_, hh.key hj, ?_⟩
    set_option smartUnfolding false in conv => whnf
    refine br (fun hc => ?_) (fun hc => ?_) <;> (try rw [hc]) <;> (set_option smartUnfolding false in conv => whnf)
    · exact h3 _ hidy hyL (of_decide_eq_true hc)
    · have hle : key ≤ (gI L j).2 := by have := of_decide_eq_false hc; omega
      refine ⟨_, ld1 hr.hk rfl, ?_⟩
      set_option smartUnfolding false in conv => whnf
      refine ⟨_, hh.row, ?_⟩
      set_option smartUnfolding false in conv => whnf
      refine ⟨_, idx_slS3 hj, ?_⟩
      set_option smartUnfolding false in conv => whnf
      have hol := oc_len L
      refine eff_o (sto_o hh.hr rfl (by rw [List.length_append]; show j * 2 + 1 + 1 ≤ _; omega) rfl) fun g1 e1 => ?_
      set_option smartUnfolding false in conv => whnf
      have hkp : k ≠ p := hr.ne
      have hh1 : HAt g1 p r cap true (L.set j ((gI L j).1, key)) P rest := by
        refine ⟨?_, ?_, hh.ne, ?_, ?_⟩
        · rw [e1, get_set_ne hh.ne, List.length_set]; exact hh.hp
        · rw [e1, get_set_same, ← oc_setk L j hj key rest]; rfl
        · rw [e1]; exact hh.lp
        · rw [e1]; exact hh.lr
      have gk1 : g1.get k = some (.cells [.ptr p 0] true 0) := by rw [e1, get_set_ne (Ne.symm rk)]; exact hr.hk
      have fr1 : Fr h g1 [p, r] := by rw [e1]; exact (Fr.refl h [p, r]).set (by simp)
      clear e1
      refine ⟨_, ld1 gk1 rfl, ?_⟩
      set_option smartUnfolding false in conv => whnf
      have hpf := low_plf hr.pl hj key
      have hjl : j < (L.set j ((gI L j).1, key)).length := by rw [List.length_set]; exact hj
      have h64 := hr.pl.len64
      refine up_o hh1 hjl (by rw [List.length_set]; omega) (hpf.vac hjl) (low_hup hr.hp hj) fun g4 L4 P4 a4 hh4 k1 k2 k3 k4 k5 k6 k7 fr4 => ?_
      set_option smartUnfolding false in conv => whnf
      have fr := fr1.trans fr4
      rw [List.length_set] at k1
      refine h4 (gI L j) hidy hyL hle g4 S L4 P4 ⟨?_, hr.ne, Nat.lt_of_lt_of_le hr.lk fr.next, hh4.lp, .inr ⟨r, cap, rest, hS, rk, by omega, hh4⟩, k3, k4.full (k7 (low_hch hr.hp hj hle))⟩ (fun z => ?_) ⟨⟨fr.next, fun b hb hn => fr.keep b hb ?_⟩, fun b hb => .inl hb⟩
      · rw [fr.keep k hr.lk (by simp [hr.ne, Ne.symm rk])]; exact hr.hk
      · rw [k6.mem]; exact low_mem hr.pl hj key z
      · rw [hS] at hn
        simp at hn ⊢
        exact hn.2
/-- The least one. -/
def IsF (L : List Id) (x : Id) : Prop := x ∈ L ∧ ∀ y ∈ L, ah y x = false
theorem hp_f {L : List Id} (h : Hp L) (hl : 0 < L.length) : IsF L (gI L 0) := by
  refine ⟨mem_gI.2 ⟨0, hl, rfl⟩, fun y hy => ?_⟩
  obtain ⟨i, hi, rfl⟩ := mem_gI.1 hy
  clear hy
  induction i using Nat.strongRecOn with
  | ind i ih =>
    rcases Nat.eq_zero_or_pos i with rfl | h0
    · rw [ah_not]; omega
    · exact ah_tt (h i h0 hi) (ih ((i - 1) / 2) (by omega) (by omega))
theorem pop_o {h : Heap} {k p : Nat} {S : List Nat} {L : List Id} {P : Nat → Nat} (hr : RAt h k p S L P) {Q : AV → Heap → Prop} (h1 : L = [] → Q (.tup [.int .i64 0, .int .i64 0, .bool false]) h)
    (h2 : ∀ x, IsF L x → ∀ h' S' L' P', RAt h' k p S' L' P' → L'.length + 1 = L.length → (∀ y, y ∈ L' ↔ y ∈ L ∧ y.1 ≠ x.1) → Own h h' S S' → Q (.tup [.int .i64 (x.1 : Nat), .int .i64 x.2, .bool true]) h') : VD fs ms f_rank_Rank_Pop [.ptr k 0] h Q := by
  refine vd_start (af := C_rank_Rank_Pop) true rfl (Nat.le_of_ble_eq_true rfl) ?_
  set_option smartUnfolding false in conv => whnf
  refine first_o hr (fun hL => ?_) fun hl => ?_
  · set_option smartUnfolding false in conv => whnf
    exact h1 hL
  · set_option smartUnfolding false in conv => whnf
    refine ⟨_, ld1 hr.hk rfl, ?_⟩
    set_option smartUnfolding false in conv => whnf
    refine cut_r hr (a := 0) hl fun h' S' L' P' k1 k2 k3 k4 => ?_
    set_option smartUnfolding false in conv => whnf
    exact h2 _ (hp_f hr.hp hl) h' S' L' P' k1 k2 k3 k4
theorem len_o {h : Heap} {k p : Nat} {S : List Nat} {L : List Id} {P : Nat → Nat} (hr : RAt h k p S L P) {Q : AV → Heap → Prop} (hQ : Q (.int .i64 ((L.length : Nat) : Int)) h) : VD fs ms f_rank_Rank_Len [.ptr k 0] h Q := by
  refine vd_start (af := C_rank_Rank_Len) true rfl (Nat.le_of_ble_eq_true rfl) ?_
  set_option smartUnfolding false in conv => whnf
  obtain ⟨rv, l1, l2, l3⟩ := hr.row.len
  refine none_o hr ?_
  set_option smartUnfolding false in conv => whnf
  refine ⟨_, ld1 hr.hk rfl, ?_⟩
  set_option smartUnfolding false in conv => whnf
  refine vd_start (af := C_rank_heaped_Len) true rfl (Nat.le_of_ble_eq_true rfl) ?_
  set_option smartUnfolding false in conv => whnf
  refine ⟨_, l1, ?_⟩
  set_option smartUnfolding false in conv => whnf
  refine op_some l2 ?_
  set_option smartUnfolding false in conv => whnf
  exact hQ

/-- Lists with one of each. -/
theorem sub_len {α : Type} [DecidableEq α] : ∀ (A B : List α), A.Nodup → (∀ x ∈ A, x ∈ B) → A.length ≤ B.length
  | [], B, _, _ => Nat.zero_le _
  | x :: A, B, hn, h => by
    rw [List.nodup_cons] at hn
    have hx := h x List.mem_cons_self
    have := sub_len A (B.erase x) hn.2 (fun y hy => by
      have hne : y ≠ x := by rintro rfl; exact hn.1 hy
      exact (List.mem_erase_of_ne hne).2 (h y (List.mem_cons_of_mem _ hy)))
    rw [List.length_erase_of_mem hx] at this
    have := List.length_pos_of_mem hx
    simp only [List.length_cons]
    omega
theorem PlF.nd {L : List Id} {P : Nat → Nat} (h : PlF L P) : L.Nodup := by
  show List.Pairwise (· ≠ ·) _
  rw [List.pairwise_iff_getElem]
  intro i j hi hj hij e
  have := h.dist i j hi hj (by rw [gI_eq hi, gI_eq hj, e])
  omega
theorem len_same {A B : List Id} (ha : A.Nodup) (hb : B.Nodup) (h : ∀ y, y ∈ A ↔ y ∈ B) : A.length = B.length :=
  Nat.le_antisymm (sub_len A B ha fun x hx => (h x).1 hx) (sub_len B A hb fun x hx => (h x).2 hx)
theorem len_add {A B : List Id} (ha : A.Nodup) (hb : B.Nodup) {x : Id} (hx : x ∉ B) (h : ∀ y, y ∈ A ↔ y ∈ B ∨ y = x) : A.length = B.length + 1 := by
  have := len_same (B := x :: B) ha (List.nodup_cons.2 ⟨hx, hb⟩) fun y => by rw [h, List.mem_cons, or_comm]
  simpa using this
theorem len_del {A B : List Id} (ha : A.Nodup) (hb : B.Nodup) {x : Id} (hx : x ∈ B) (hu : ∀ y ∈ B, y.1 = x.1 → y = x) (h : ∀ y, y ∈ A ↔ y ∈ B ∧ y.1 ≠ x.1) : A.length + 1 = B.length := by
  have := len_add (A := B) (B := A) hb ha (x := x) (fun hm => ((h x).1 hm).2 rfl) fun y => by
    rw [h]
    constructor
    · intro hy
      by_cases e : y.1 = x.1
      · exact .inr (hu y hy e)
      · exact .inl ⟨hy, e⟩
    · rintro (h1 | rfl)
      · exact h1.1
      · exact hx
  omega
end Ir
end Go.Proofs.Ytenafeojcgmnhaa
