/-
  Rank in plain Lean: ids in a heap. Rank's heap of ids: up, down, cut. Rank: cut. Rank: a rank in a heap, what it answers. Rank: an id more. Rank: Remove, First, Key. How ids are compared and sorted by insertion. Rows of ids, sorted in place: insertion. Rank: Ids of a few. Ready: a queue in a heap.
-/
import Derived.Test.YtnlcabhfkpafmaaGreatZA
set_option maxRecDepth 100000
set_option linter.unusedSimpArgs false
set_option linter.unusedVariables false
set_option smartUnfolding false
namespace Go.Proofs.YtnlcabhfkpafmaaGreat
open Go Ads
namespace Ir

theorem ah_iff {a b : Id} : ah a b = true ↔ a.2 < b.2 ∨ (a.2 = b.2 ∧ a.1 < b.1) := by simp [ah]
theorem ah_not {a b : Id} : ah a b = false ↔ b.2 < a.2 ∨ (a.2 = b.2 ∧ b.1 ≤ a.1) := by
 rw [← Bool.not_eq_true, ah_iff]
 omega
def gI (V : List Id) (i : Nat) : Id := V.getD i (0, 0)
theorem gI_eq {V : List Id} {i : Nat} (h : i < V.length) : gI V i = V[i] := by simp [gI, List.getD_eq_getElem?_getD, List.getElem?_eq_getElem h]
theorem gI_set {V : List Id} {i : Nat} (h : i < V.length) (x : Id) (k : Nat) : gI (V.set i x) k = if k = i then x else gI V k := by
 simp only [gI, List.getD_eq_getElem?_getD, List.getElem?_set]
 by_cases hk : i = k
 ·subst hk; simp [h]
 ·rw [if_neg hk, if_neg (Ne.symm hk)]
def swp (V : List Id) (i j : Nat) : List Id := (V.set i (gI V j)).set j (gI V i)
theorem swp_len (V : List Id) (i j : Nat) : (swp V i j).length = V.length := by simp [swp]
theorem gI_swp {V : List Id} {i j : Nat} (hi : i < V.length) (hj : j < V.length) (k : Nat) : gI (swp V i j) k = if k = j then gI V i else if k = i then gI V j else gI V k := by
 rw [swp, gI_set (by simpa using hj), gI_set hi]

def Same (V W : List Id) : Prop := V.length = W.length ∧ ∀ y, (∃ i, i < V.length ∧ gI V i = y) ↔ ∃ i, i < W.length ∧ gI W i = y
theorem Same.refl (V : List Id) : Same V V := ⟨rfl, fun _ => Iff.rfl⟩
theorem Same.trans {V W X : List Id} (a : Same V W) (b : Same W X) : Same V X := ⟨a.1.trans b.1, fun y => (a.2 y).trans (b.2 y)⟩
theorem same_swp {V : List Id} {i j : Nat} (hi : i < V.length) (hj : j < V.length) : Same V (swp V i j) := by
 refine ⟨(swp_len V i j).symm, fun y => ⟨?_, ?_⟩⟩
 ·rintro ⟨k, hk, he⟩
  by_cases h1 : k = i
  ·subst h1
   exact ⟨j, by rw [swp_len]; exact hj, by rw [gI_swp hi hj, if_pos rfl, he]⟩
  ·by_cases h2 : k = j
   ·subst h2
    exact ⟨i, by rw [swp_len]; exact hi, by rw [gI_swp hi hj, if_neg (fun e => h1 e.symm), if_pos rfl, he]⟩
   ·exact ⟨k, by rw [swp_len]; exact hk, by rw [gI_swp hi hj, if_neg h2, if_neg h1, he]⟩
 ·rintro ⟨k, hk, he⟩
  rw [swp_len] at hk
  rw [gI_swp hi hj] at he
  split at he
  ·exact ⟨i, hi, he⟩
  ·split at he
   ·exact ⟨j, hj, he⟩
   ·exact ⟨k, hk, he⟩

structure PlV (V : List Id) (P : Nat → Nat) (a : Nat) : Prop where
 lt : a < V.length
 small : ∀ i, i < V.length → (gI V i).1 < 64
 dist : ∀ i j, i < V.length → j < V.length → (gI V i).1 = (gI V j).1 → i = j
 pl : ∀ i, i < V.length → i ≠ a → P (gI V i).1 = i + 1
 back : ∀ d, d < 64 → d ≠ (gI V a).1 → 0 < P d → P d ≤ V.length ∧ (gI V (P d - 1)).1 = d
structure PlF (V : List Id) (P : Nat → Nat) : Prop where
 small : ∀ i, i < V.length → (gI V i).1 < 64
 pl : ∀ i, i < V.length → P (gI V i).1 = i + 1
 back : ∀ d, d < 64 → 0 < P d → P d ≤ V.length ∧ (gI V (P d - 1)).1 = d
theorem PlF.dist {V : List Id} {P : Nat → Nat} (h : PlF V P) : ∀ i j, i < V.length → j < V.length → (gI V i).1 = (gI V j).1 → i = j := by
 intro i j hi hj he
 have h1 := h.pl i hi
 have h2 := h.pl j hj
 rw [he] at h1
 omega
theorem PlV.fill {V : List Id} {P : Nat → Nat} {a : Nat} (h : PlV V P a) : PlF V (upd P (gI V a).1 (a + 1)) := by
 refine ⟨h.small, fun i hi => ?_, fun d hd hp => ?_⟩
 ·unfold upd
  split
  ·rename_i he
   have := h.dist i a hi h.lt he
   omega
  ·rename_i he
   exact h.pl i hi (by rintro rfl; exact he rfl)
 ·unfold upd at hp ⊢
  split
  ·rename_i he
   exact ⟨by have := h.lt; omega, by rw [he]; rfl⟩
  ·rename_i he
   rw [if_neg he] at hp
   exact h.back d hd he hp
theorem PlV.step {V : List Id} {P : Nat → Nat} {a m : Nat} (h : PlV V P a) (hm : m < V.length) (hne : m ≠ a) : PlV (swp V a m) (upd P (gI V m).1 (a + 1)) m := by
 have hl := swp_len V a m
 have hg := gI_swp h.lt hm
 refine ⟨by omega, fun i hi => ?_, fun i j hi hj he => ?_, fun i hi hn => ?_, fun d hd hn hp => ?_⟩
 ·rw [hg]
  have h1 := h.small a h.lt
  have h2 := h.small m hm
  have h3 := h.small i (by omega)
  split
  ·exact h1
  ·split
   ·exact h2
   ·exact h3
 ·have hs : ∀ k, gI (swp V a m) k = gI V (if k = m then a else if k = a then m else k) := by
   intro k
   rw [hg]
   split
   ·rfl
   ·split <;> rfl
  have hlt := h.lt
  have hk : ∀ k, k < (swp V a m).length → (if k = m then a else if k = a then m else k) < V.length := by
   intro k hk
   split
   ·omega
   ·split <;> omega
  rw [hs, hs] at he
  have key := h.dist _ _ (hk i hi) (hk j hj) he
  revert key
  repeat' split
  all_goals (intro key; omega)
 ·rw [hg, if_neg hn]
  unfold upd
  by_cases hia : i = a
  ·rw [if_pos hia, if_pos rfl]; omega
  ·rw [if_neg hia, if_neg (fun he => hn (h.dist i m (by omega) hm he))]
   exact h.pl i (by omega) hia
 ·rw [hg, if_pos rfl] at hn
  unfold upd at hp ⊢
  by_cases hdm : d = (gI V m).1
  ·rw [if_pos hdm]
   exact ⟨by have := h.lt; omega, by rw [hg, if_neg (by omega), if_pos (by omega), hdm]⟩
  ·rw [if_neg hdm] at hp ⊢
   have := h.back d hd hn hp
   refine ⟨by omega, ?_⟩
   rw [hg, if_neg, if_neg]
   ·exact this.2
   ·intro e; rw [e] at this; exact hn this.2.symm
   ·intro e; rw [e] at this; exact hdm this.2.symm

def Hp (V : List Id) : Prop := ∀ i, 0 < i → i < V.length → ah (gI V i) (gI V ((i - 1) / 2)) = false
def Hab (V : List Id) (a : Nat) : Prop := ∀ c, 0 < c → c < V.length → (c - 1) / 2 = a → 0 < a → ah (gI V c) (gI V ((a - 1) / 2)) = false
def Hch (V : List Id) (a : Nat) : Prop := ∀ c, 0 < c → c < V.length → (c - 1) / 2 = a → ah (gI V c) (gI V a) = false
structure Hup (V : List Id) (a : Nat) : Prop where
 o : ∀ i, 0 < i → i < V.length → i ≠ a → (i - 1) / 2 ≠ a → ah (gI V i) (gI V ((i - 1) / 2)) = false
 ab : Hab V a
structure Hdn (V : List Id) (a : Nat) : Prop where
 o : ∀ i, 0 < i → i < V.length → (i - 1) / 2 ≠ a → ah (gI V i) (gI V ((i - 1) / 2)) = false
 ab : Hab V a
theorem Hdn.full {V : List Id} {a : Nat} (h : Hdn V a) (hc : Hch V a) : Hp V := by
 intro i h0 hi
 by_cases hp : (i - 1) / 2 = a
 ·rw [hp]; exact hc i h0 hi hp
 ·exact h.o i h0 hi hp
theorem Hup.done {V : List Id} {a : Nat} (h : Hup V a) (hs : a = 0 ∨ ah (gI V a) (gI V ((a - 1) / 2)) = false) : Hdn V a := by
 refine ⟨fun i h0 hi hn => ?_, h.ab⟩
 by_cases ha : i = a
 ·subst ha
  rcases hs with h1 | h1
  ·omega
  ·exact h1
 ·exact h.o i h0 hi ha hn
theorem ah_tt {a b c : Id} (h1 : ah a b = false) (h2 : ah b c = false) : ah a c = false := by rw [ah_not] at *; omega
theorem ah_as {a b : Id} (h1 : ah a b = true) : ah b a = false := by rw [ah_not]; rw [ah_iff] at h1; omega
theorem Hup.step {V : List Id} {a : Nat} (h : Hup V a) (ha : 0 < a) (hl : a < V.length) (hs : ah (gI V a) (gI V ((a - 1) / 2)) = true) : Hup (swp V a ((a - 1) / 2)) ((a - 1) / 2) ∧ Hch (swp V a ((a - 1) / 2)) ((a - 1) / 2) := by
 obtain ⟨m, hm⟩ : ∃ m, m = (a - 1) / 2 := ⟨_, rfl⟩
 rw [← hm] at hs ⊢
 have hlen := swp_len V a m
 have hg := gI_swp hl (show m < V.length by omega)
 refine ⟨⟨fun i h0 hi hn hp => ?_, fun c h0 hc hp hma => ?_⟩, fun c h0 hc hp => ?_⟩
 ·rw [hg, hg, if_neg hn, if_neg hp]
  have hia : i ≠ a := by rintro rfl; exact hp hm.symm
  rw [if_neg hia]
  by_cases hpa : (i - 1) / 2 = a
  ·rw [if_pos hpa]
   have := h.ab i h0 (by omega) hpa ha
   rw [← hm] at this
   exact this
  ·rw [if_neg hpa]
   exact h.o i h0 (by omega) hia hpa
 ·have hmo := h.o m hma (by omega) (by omega) (by omega)
  have e1 : gI (swp V a m) ((m - 1) / 2) = gI V ((m - 1) / 2) := by rw [hg, if_neg (by omega), if_neg (by omega)]
  rw [e1, hg, if_neg (by omega)]
  by_cases hca : c = a
  ·rw [if_pos hca]; exact hmo
  ·rw [if_neg hca]
   have := h.o c h0 (by omega) hca (by omega)
   rw [hp] at this
   exact ah_tt this hmo
 ·have e1 : gI (swp V a m) m = gI V a := by rw [hg, if_pos rfl]
  rw [e1, hg, if_neg (by omega)]
  by_cases hca : c = a
  ·rw [if_pos hca]; exact ah_as hs
  ·rw [if_neg hca]
   have := h.o c h0 (by omega) hca (by omega)
   rw [hp] at this
   exact ah_tt this (ah_as hs)
theorem Hdn.step {V : List Id} {a m : Nat} (h : Hdn V a) (hl : a < V.length) (hm0 : 0 < m) (hm : m < V.length) (hp : (m - 1) / 2 = a) (hs : ah (gI V m) (gI V a) = true)
  (hmin : ∀ c, 0 < c → c < V.length → (c - 1) / 2 = a → ah (gI V c) (gI V m) = false) : Hdn (swp V a m) m := by
 have hlen := swp_len V a m
 have hg := gI_swp hl hm
 refine ⟨fun i h0 hi hn => ?_, fun c h0 hc hpc hma => ?_⟩
 ·by_cases him : i = m
  ·subst him
   have e1 : gI (swp V a i) ((i - 1) / 2) = gI V i := by rw [hp, hg, if_neg (by omega), if_pos rfl]
   rw [e1, hg, if_pos rfl]
   exact ah_as hs
  ·by_cases hia : i = a
   ·subst hia
    have e1 : gI (swp V i m) ((i - 1) / 2) = gI V ((i - 1) / 2) := by rw [hg, if_neg hn, if_neg (by omega)]
    rw [e1, hg, if_neg him, if_pos rfl]
    exact h.ab m hm0 hm hp h0
   ·rw [hg i, if_neg him, if_neg hia, hg, if_neg hn]
    by_cases hpa : (i - 1) / 2 = a
    ·rw [if_pos hpa]
     exact hmin i h0 (by omega) hpa
    ·rw [if_neg hpa]
     exact h.o i h0 (by omega) hpa
 ·have e1 : gI (swp V a m) ((m - 1) / 2) = gI V m := by rw [hp, hg, if_neg (by omega), if_pos rfl]
  rw [e1, hg, if_neg (by omega), if_neg (by omega)]
  have := h.o c h0 (by omega) (by omega)
  rw [hpc] at this
  exact this
end Ir
end Go.Proofs.YtnlcabhfkpafmaaGreat
namespace Go.Proofs.YtnlcabhfkpafmaaGreat
open Go Ads
namespace Ads
end Ads
namespace Ir

theorem HAt.row {h : Heap} {p r cap : Nat} {op : Bool} {L : List Id} {P : Nat → Nat} {rest : List AV} (hh : HAt h p r cap op L P rest) : rV .load1 [.ptr p 0] h = some (.sl r 0 L.length cap op) := ld1 hh.hp rfl
theorem HAt.one {h : Heap} {p r cap : Nat} {op : Bool} {L : List Id} {P : Nat → Nat} {rest : List AV} (hh : HAt h p r cap op L P rest) {i : Nat} (hi : i < L.length) : rV (.loadN 2) [.ptr r (i * 2)] h = some (ob (gI L i)) := by
 have hlen := oc_len L
 rw [ldN hh.hr (by rw [List.length_append]; omega), oc_take hi, gI_eq hi]
 rfl
theorem HAt.id {h : Heap} {p r cap : Nat} {op : Bool} {L : List Id} {P : Nat → Nat} {rest : List AV} (hh : HAt h p r cap op L P rest) {i : Nat} (hi : i < L.length) : rV .load1 [.ptr r (i * 2)] h = some (.int .i64 ((gI L i).1 : Nat)) := by
 have hlen := oc_len L
 refine ld1 hh.hr ?_
 rw [List.getElem?_append_left (by omega), gI_eq hi]
 exact oc_id hi
theorem HAt.key {h : Heap} {p r cap : Nat} {op : Bool} {L : List Id} {P : Nat → Nat} {rest : List AV} (hh : HAt h p r cap op L P rest) {i : Nat} (hi : i < L.length) : rV .load1 [.ptr r (i * 2 + 1)] h = some (.int .i64 (gI L i).2) := by
 have hlen := oc_len L
 refine ld1 hh.hr ?_
 rw [List.getElem?_append_left (by omega), gI_eq hi]
 exact oc_key hi
theorem HAt.place {h : Heap} {p r cap : Nat} {op : Bool} {L : List Id} {P : Nat → Nat} {rest : List AV} (hh : HAt h p r cap op L P rest) {i : Nat} (hi : i < 64) : rV .load1 [.ptr p (1 + i * 1)] h = some (.int .i64 ((P i : Nat) : Int)) := by
 refine ld1 hh.hp ?_
 rw [show 1 + i * 1 = i + 1 by omega, List.getElem?_cons_succ]
 exact plc_get hi
theorem half_op {a : Nat} (h : a < 2 ^ 62) : pV (.bin .quo) [.int .i64 (IntKind.i64.wrap (((a + 1 : Nat) : Int) - 1)), .int .i64 2] = some (.int .i64 ((a / 2 : Nat) : Int)) := by
 rw [quo_val _ _ (by decide)]
 have e1 : IntKind.i64.wrap (((a + 1 : Nat) : Int) - 1) = ((a : Nat) : Int) := by
  rw [show ((a + 1 : Nat) : Int) - 1 = ((a : Nat) : Int) by omega]
  exact wrap_nat (by omega)
 rw [e1]
 have e2 : ((a : Nat) : Int).tdiv 2 = ((a / 2 : Nat) : Int) := by rw [Int.tdiv_eq_ediv_of_nonneg (by omega)]; rfl
 rw [e2, wrap_nat (by omega)]
theorem set_gI {L : List Id} {a : Nat} (h : a < L.length) : L.set a (gI L a) = L := by
 rw [gI_eq h]
 exact List.set_getElem_self h
theorem gI_ne {L : List Id} {a i : Nat} {x : Id} (h : a < L.length) (hi : i ≠ a) : gI (L.set a x) i = gI L i := by rw [gI_set h, if_neg hi]
theorem gI_at {L : List Id} {a : Nat} {x : Id} (h : a < L.length) : gI (L.set a x) a = x := by rw [gI_set h, if_pos rfl]
theorem swp_at {L : List Id} {a m : Nat} {x : Id} (h : a < L.length) (hm : m < L.length) (hn : m ≠ a) : (L.set a (gI L m)).set m x = swp (L.set a x) a m := by
 rw [swp, gI_at h, gI_ne h hn, List.set_set]

theorem up_loop {p r cap t : Nat} {op : Bool} {rest : List AV} {x : Id} {B : Nat} {Q : AX → Env → Heap → Prop} {N : Nat} (hN : N < 2 ^ 62) (tp : t ≠ p) (tr : t ≠ r) (es : Nat) :
  ∀ (a : Nat) (h : Heap) (L : List Id) (P : Nat → Nat), HAt h p r cap op L P rest → t < h.next → h.get t = some (.cells (ob x).cells true es) → a < N → L.length = N → PlV (L.set a x) P a → Hup (L.set a x) a →
  (∀ (a' : Nat) (h' : Heap) (L' : List Id) (P' : Nat → Nat) (e' : Env), Tr.get e' 0 = some (.ptr p 0) → Tr.get e' 1 = some (.int .i64 ((a' : Nat) : Int)) → Tr.get e' 4 = some (.ptr t 0) → HAt h' p r cap op L' P' rest → h'.get t = some (.cells (ob x).cells true es) → a' < N → L'.length = N →
   PlV (L'.set a' x) P' a' → Hdn (L'.set a' x) a' → Same (L.set a x) (L'.set a' x) → (Hch (L.set a x) a → Hch (L'.set a' x) a') → Fr h h' [p, r] → Q (.exit 0) e' h') →
  VC fs ms B false (.loop L_rank_heaped_up_0) (ek 3 [(0, .ptr p 0), (1, .int .i64 ((a : Nat) : Int)), (4, .ptr t 0)]) h Q := by
 intro a
 induction a using Nat.strongRecOn with
 | ind a ih =>
 intro h L P hh htn ht ha hL hp hu hQ
 refine vc_loop (z := true) ?_
 conv => whnf
 rcases Nat.eq_zero_or_pos a with h0 | h0
 ·refine br (fun hc => ?_) (fun hc => ?_) <;> (try rw [hc]) <;> (conv => whnf)
  ·exfalso
   have := of_decide_eq_true hc
   omega
  ·exact hQ a h L P _ rfl rfl rfl hh ht ha hL hp (hu.done (.inl h0)) (Same.refl _) id (Fr.refl _ _)
 ·obtain ⟨b, rfl⟩ : ∃ b, a = b + 1 := ⟨a - 1, by omega⟩
  refine br (fun hc => ?_) (fun hc => ?_) <;> (try rw [hc]) <;> (conv => whnf)
  ·refine ⟨_, ldN ht (Nat.le_refl _), ?_⟩
   conv => whnf
   refine ⟨_, hh.row, ?_⟩
   conv => whnf
   refine ⟨_, half_op (by omega), ?_⟩
   conv => whnf
   refine ⟨_, idx_slS3 (by omega), ?_⟩
   conv => whnf
   refine ⟨_, hh.one (by omega), ?_⟩
   conv => whnf
   refine vd_pure (ahead_c x _) ?_
   conv => whnf
   refine br (fun hc => ?_) (fun hc => ?_) <;> (try rw [hc]) <;> (conv => whnf)
   ·have hc' := hc
    refine ⟨_, hh.row, ?_⟩
    conv => whnf
    refine ⟨_, half_op (by omega), ?_⟩
    conv => whnf
    refine ⟨_, idx_slS3 (by omega), ?_⟩
    conv => whnf
    refine ⟨_, hh.one (by omega), ?_⟩
    conv => whnf
    have hbs : b / 2 < L.length := by omega
    have hne : b / 2 ≠ b + 1 := by omega
    have hal : b + 1 < L.length := by omega
    have hsm : (gI L (b / 2)).1 < 64 := by
     have := hp.small (b / 2) (by rw [List.length_set]; exact hbs)
     rw [gI_ne hal hne] at this
     exact this
    refine lay_o hh hal hsm (by omega) fun h' hh' fr => ?_
    conv => whnf
    refine ⟨_, half_op (by omega), ?_⟩
    conv => whnf
    have e0 : (b + 1 - 1) / 2 = b / 2 := by omega
    have hs : ah (gI (L.set (b + 1) x) (b + 1)) (gI (L.set (b + 1) x) ((b + 1 - 1) / 2)) = true := by
     rw [e0, gI_at hal, gI_ne hal hne]
     exact hc'
    have hst := hu.step (by omega) (by rw [List.length_set]; exact hal) hs
    rw [e0] at hst
    have hsw : (L.set (b + 1) (gI L (b / 2))).set (b / 2) x = swp (L.set (b + 1) x) (b + 1) (b / 2) := swp_at hal hbs hne
    have hpl := hp.step (m := b / 2) (by rw [List.length_set]; exact hbs) hne
    rw [gI_ne hal hne] at hpl
    refine vc_slots 3 [(0, .ptr p 0), (1, .int .i64 ((b / 2 : Nat) : Int)), (4, .ptr t 0)] ⟨rfl, rfl, rfl, trivial⟩ ?_
    refine ih (b / 2) (by omega) h' _ _ hh' (Nat.lt_of_lt_of_le htn fr.next) (by rw [fr.keep t htn (by simp [tp, tr])]; exact ht) (by omega) (by simp [hL]) (by rw [hsw]; exact hpl) (by rw [hsw]; exact hst.1) ?_
    intro a' h1 L1 P1 e1 g0 g1 g4 k1 k2 k3 k4 k5 k6 k7 k8 k9
    rw [hsw] at k7 k8
    refine hQ a' h1 L1 P1 e1 g0 g1 g4 k1 k2 k3 k4 k5 k6 ((same_swp (by rw [List.length_set]; exact hal) (by rw [List.length_set]; exact hbs)).trans k7) (fun _ => k8 hst.2) (fr.trans k9)
   ·have hc' := hc
    refine hQ (b + 1) h L P _ rfl rfl rfl hh ht ha hL hp (hu.done (.inr ?_)) (Same.refl _) id (Fr.refl _ _)
    rw [show (b + 1 - 1) / 2 = b / 2 by omega, gI_at (by omega), gI_ne (by omega) (by omega)]
    exact hc'
  ·exfalso
   have := of_decide_eq_false hc
   omega

theorem HAt.new {h : Heap} {p r cap : Nat} {op : Bool} {L : List Id} {P : Nat → Nat} {rest : List AV} (hh : HAt h p r cap op L P rest) (x : Blk) : HAt (h.new x) p r cap op L P rest :=
 ⟨by rw [get_new_ne hh.lp]; exact hh.hp, by rw [get_new_ne hh.lr]; exact hh.hr, hh.ne, Nat.lt_succ_of_lt hh.lp, Nat.lt_succ_of_lt hh.lr⟩
theorem HAt.set {h : Heap} {p r cap : Nat} {op : Bool} {L : List Id} {P : Nat → Nat} {rest : List AV} (hh : HAt h p r cap op L P rest) {b : Nat} (x : Blk) (h1 : b ≠ p) (h2 : b ≠ r) : HAt (h.set b x) p r cap op L P rest :=
 ⟨by rw [get_set_ne h1.symm]; exact hh.hp, by rw [get_set_ne h2.symm]; exact hh.hr, hh.ne, hh.lp, hh.lr⟩

theorem up_o {h : Heap} {p r cap : Nat} {op : Bool} {L : List Id} {P : Nat → Nat} {rest : List AV} {a : Nat} (hh : HAt h p r cap op L P rest) (ha : a < L.length) (hN : L.length < 2 ^ 62) (hp : PlV L P a) (hu : Hup L a) {Q : AV → Heap → Prop}
  (hQ : ∀ h' L' P' a', HAt h' p r cap op L' P' rest → L'.length = L.length → a' < L'.length → PlF L' P' → Hdn L' a' → gI L' a' = gI L a → Same L L' → (Hch L a → Hch L' a') → Fr h h' [p, r] → Q (.tup []) h') : VD fs ms f_rank_heaped_up [.ptr p 0, .int .i64 ((a : Nat) : Int)] h Q := by
 refine vd_begin (af := C_rank_heaped_up) rfl (yB rfl) ?_
 conv => whnf
 refine vc_seq true ?_
 conv => whnf
 refine ⟨_, hh.row, ?_⟩
 conv => whnf
 refine ⟨_, idx_slS3 ha, ?_⟩
 conv => whnf
 refine ⟨_, hh.one ha, ?_⟩
 conv => whnf
 refine ⟨_, _, sto_o get_new_same rfl (Nat.le_refl _) rfl, ?_⟩
 conv => whnf
 refine vc_seqV (vc_block ?_)
 refine vc_slots 3 [(0, .ptr p 0), (1, .int .i64 ((a : Nat) : Int)), (4, .ptr h.next 0)] ⟨rfl, rfl, rfl, trivial⟩ ?_
 have n1 : h.next ≠ p := by have := hh.lp; omega
 have n2 : h.next ≠ r := by have := hh.lr; omega
 refine up_loop (x := gI L a) (N := L.length) hN n1 n2 _ a _ L P ((hh.new _).set _ n1 n2) (Nat.lt_succ_self _) (by rw [get_set_same]; rfl) ha rfl (by rw [set_gI ha]; exact hp) (by rw [set_gI ha]; exact hu) ?_
 intro a' h1 L1 P1 e1 g0 g1 g4 k1 k2 k3 k4 k5 k6 k7 k8 k9
 rw [set_gI ha] at k7 k8
 show VC fs ms _ _ _ _ _ _
 refine vc_slots 3 [(0, .ptr p 0), (1, .int .i64 ((a' : Nat) : Int)), (4, .ptr h.next 0)] ⟨g0, g1, g4, trivial⟩ (vpC_sound (z := true) ?_)
 conv => whnf
 refine ⟨_, ldN k2 (Nat.le_refl _), ?_⟩
 conv => whnf
 have hsm : (gI L a).1 < 64 := hp.small a ha
 have hal : a' < L1.length := by omega
 refine lay_o (x := gI L a) k1 hal hsm (by omega) fun h2 hh2 fr2 => ?_
 conv => whnf
 have hfin := k5.fill
 rw [gI_at hal] at hfin
 refine hQ h2 _ _ a' hh2 (by rw [List.length_set]; exact k4) (by rw [List.length_set]; exact hal) hfin k6 (gI_at hal) k7 k8 ?_
 exact (((Fr.refl h [p, r]).new (x := _)).setn (Nat.le_refl _)).trans (k9.trans fr2)

theorem dbl_v {a : Nat} (h : a < 2 ^ 61) : IntKind.i64.wrap (IntKind.i64.wrap (2 * ((a : Nat) : Int)) + 1) = ((2 * a + 1 : Nat) : Int) := by
 rw [show 2 * ((a : Nat) : Int) = ((2 * a : Nat) : Int) by omega, wrap_nat (by omega), inc_val (by omega)]

theorem down_loop {p r cap t : Nat} {op : Bool} {rest : List AV} {x : Id} {B : Nat} {Q : AX → Env → Heap → Prop} {N : Nat} (hN : N < 2 ^ 60) (tp : t ≠ p) (tr : t ≠ r) (es : Nat) :
  ∀ (k a : Nat) (h : Heap) (L : List Id) (P : Nat → Nat), N - a = k → HAt h p r cap op L P rest → t < h.next → h.get t = some (.cells (ob x).cells true es) → a < N → L.length = N → PlV (L.set a x) P a → Hdn (L.set a x) a →
  (∀ (a' : Nat) (h' : Heap) (L' : List Id) (P' : Nat → Nat) (e' : Env), Tr.get e' 0 = some (.ptr p 0) → Tr.get e' 1 = some (.int .i64 ((a' : Nat) : Int)) → Tr.get e' 4 = some (.ptr t 0) → HAt h' p r cap op L' P' rest → h'.get t = some (.cells (ob x).cells true es) → a' < N → L'.length = N →
   PlV (L'.set a' x) P' a' → Hp (L'.set a' x) → Same (L.set a x) (L'.set a' x) → Fr h h' [p, r] → Q (.exit 0) e' h') →
  VC fs ms B false (.loop L_rank_heaped_down_0) (ek 3 [(0, .ptr p 0), (1, .int .i64 ((a : Nat) : Int)), (4, .ptr t 0)]) h Q := by
 intro k
 induction k using Nat.strongRecOn with
 | ind k ih =>
 intro a h L P hk hh htn ht ha hL hp hu hQ
 have hal : a < L.length := by omega
 have hdone : ∀ e', Tr.get e' 0 = some (.ptr p 0) → Tr.get e' 1 = some (.int .i64 ((a : Nat) : Int)) → Tr.get e' 4 = some (.ptr t 0) → Hch (L.set a x) a → Q (.exit 0) e' h := fun e' g0 g1 g4 hc =>
  hQ a h L P e' g0 g1 g4 hh ht ha hL hp (hu.full hc) (Same.refl _) (Fr.refl _ _)
 have hstep : ∀ m (h' : Heap), m < N → (m - 1) / 2 = a → 0 < m → ah (gI L m) x = true → (∀ c, 0 < c → c < N → (c - 1) / 2 = a → ah (gI L c) (gI L m) = false) → 
   HAt h' p r cap op (L.set a (gI L m)) (upd P (gI L m).1 (a + 1)) rest → Fr h h' [p, r] →
   VC fs ms B false (.loop L_rank_heaped_down_0) (ek 3 [(0, .ptr p 0), (1, .int .i64 ((m : Nat) : Int)), (4, .ptr t 0)]) h' Q := by
  intro m h' hm hpa hm0 hs hmin hh' fr
  have hne : m ≠ a := by omega
  have hml : m < L.length := by omega
  have hsw : (L.set a (gI L m)).set m x = swp (L.set a x) a m := swp_at hal hml hne
  have hpl := hp.step (m := m) (by rw [List.length_set]; exact hml) hne
  rw [gI_ne hal hne] at hpl
  have hdn := hu.step (m := m) (by rw [List.length_set]; exact hal) hm0 (by rw [List.length_set]; exact hml) hpa (by rw [gI_at hal, gI_ne hal hne]; exact hs) (by
   intro c h0 hc hpc
   rw [List.length_set] at hc
   rw [gI_ne hal (by omega), gI_ne hal hne]
   exact hmin c h0 (by omega) hpc)
  refine ih (N - m) (by omega) m h' _ _ rfl hh' (Nat.lt_of_lt_of_le htn fr.next) (by rw [fr.keep t htn (by simp [tp, tr])]; exact ht) hm (by simp [hL]) (by rw [hsw]; exact hpl) (by rw [hsw]; exact hdn) ?_
  intro a' h1 L1 P1 e1 g0 g1 g4 k1 k2 k3 k4 k5 k6 k7 k9
  rw [hsw] at k7
  exact hQ a' h1 L1 P1 e1 g0 g1 g4 k1 k2 k3 k4 k5 k6 ((same_swp (by rw [List.length_set]; exact hal) (by rw [List.length_set]; exact hml)).trans k7) (fr.trans k9)
 clear ih hQ
 have hsm : ∀ m, m < N → m ≠ a → (gI L m).1 < 64 := by
  intro m hm hne
  have := hp.small m (by rw [List.length_set]; omega)
  rw [gI_ne hal hne] at this
  exact this
 refine vc_loopV (vc_block ?_)
 refine vc_seq true ?_
 conv => whnf
 rw [dbl_v (by omega)]
 refine vc_seqV (VC.mono (Q := fun x e1 h1 => x = .normal ∧ h1 = h ∧ ∃ m, Tr.get e1 0 = some (.ptr p 0) ∧ Tr.get e1 1 = some (.int .i64 ((a : Nat) : Int)) ∧ Tr.get e1 4 = some (.ptr t 0) ∧ Tr.get e1 5 = some (.int .i64 ((m : Nat) : Int)) ∧ (m = 2 * a + 1 ∨ m = 2 * a + 2) ∧ (N ≤ m → m = 2 * a + 1) ∧ (m < N → ∀ c, 0 < c → c < N → (c - 1) / 2 = a → ah (gI L c) (gI L m) = false)) ?_ ?_)
 ·refine vpC_sound (z := true) ?_
  generalize hK : (fun (x : AX) (e1 : Env) (h1 : Heap) => x = .normal ∧ h1 = h ∧ ∃ m, Tr.get e1 0 = some (.ptr p 0) ∧ Tr.get e1 1 = some (.int .i64 ((a : Nat) : Int)) ∧ Tr.get e1 4 = some (.ptr t 0) ∧ Tr.get e1 5 = some (.int .i64 ((m : Nat) : Int)) ∧ (m = 2 * a + 1 ∨ m = 2 * a + 2) ∧ (N ≤ m → m = 2 * a + 1) ∧ (m < N → ∀ c, 0 < c → c < N → (c - 1) / 2 = a → ah (gI L c) (gI L m) = false)) = K
  conv => whnf
  refine ⟨_, hh.row, ?_⟩
  conv => whnf
  rw [inc_val (by omega)]
  refine br (fun hc => ?_) (fun hc => ?_) <;> (try rw [hc]) <;> (conv => whnf)
  ·have hlt : 2 * a + 1 + 1 < L.length := by have := of_decide_eq_true hc; omega
   refine ⟨_, hh.row, ?_⟩
   conv => whnf
   rw [inc_val (by omega)]
   refine ⟨_, idx_slS3 hlt, ?_⟩
   conv => whnf
   refine ⟨_, hh.one hlt, ?_⟩
   conv => whnf
   refine ⟨_, hh.row, ?_⟩
   conv => whnf
   refine ⟨_, idx_slS3 (by omega), ?_⟩
   conv => whnf
   refine ⟨_, hh.one (by omega), ?_⟩
   conv => whnf
   refine vd_pure (ahead_c _ _) ?_
   conv => whnf
   have h1 : 2 * a + 1 + 1 = 2 * a + 2 := by omega
   refine br (fun hc => ?_) (fun hc => ?_) <;> (try rw [hc]) <;> (conv => whnf)
   ·have hc' := hc
    rw [inc_val (by omega)]
    subst hK
    refine ⟨rfl, rfl, 2 * a + 1 + 1, rfl, rfl, rfl, rfl, .inr rfl, by omega, fun _ c h0 hcn hpc => ?_⟩
    rcases (show c = 2 * a + 1 ∨ c = 2 * a + 1 + 1 by omega) with rfl | rfl
    ·exact ah_as hc'
    ·rw [ah_not]; omega
   ·have hc' := hc
    subst hK
    refine ⟨rfl, rfl, 2 * a + 1, rfl, rfl, rfl, rfl, .inl rfl, by omega, fun _ c h0 hcn hpc => ?_⟩
    rcases (show c = 2 * a + 1 ∨ c = 2 * a + 1 + 1 by omega) with rfl | rfl
    ·rw [ah_not]; omega
    ·exact hc'
  ·have hge : ¬ 2 * a + 1 + 1 < L.length := by have := of_decide_eq_false hc; omega
   subst hK
   refine ⟨rfl, rfl, 2 * a + 1, rfl, rfl, rfl, rfl, .inl rfl, by omega, fun _ c h0 hcn hpc => ?_⟩
   rcases (show c = 2 * a + 1 by omega) with rfl
   rw [ah_not]; omega
 ·rintro x1 e1 h1 ⟨rfl, rfl, m, g0, g1, g4, g5, hm, hmN, hmin⟩
  refine vc_slots 3 [(0, .ptr p 0), (1, .int .i64 ((a : Nat) : Int)), (4, .ptr t 0), (5, .int .i64 ((m : Nat) : Int))] ⟨g0, g1, g4, g5, trivial⟩ (vpC_sound (z := true) ?_)
  conv => whnf
  refine ⟨_, hh.row, ?_⟩
  conv => whnf
  refine br (fun hc => ?_) (fun hc => ?_) <;> (try rw [hc]) <;> (conv => whnf)
  ·have hge : L.length ≤ m := by have := of_decide_eq_true hc; omega
   refine hdone _ rfl rfl rfl fun c h0 hcn hpc => ?_
   rw [List.length_set] at hcn
   have := hmN (by omega)
   omega
  ·have hlt : m < L.length := by have := of_decide_eq_false hc; omega
   refine ⟨_, hh.row, ?_⟩
   conv => whnf
   refine ⟨_, idx_slS3 hlt, ?_⟩
   conv => whnf
   refine ⟨_, hh.one hlt, ?_⟩
   conv => whnf
   refine ⟨_, ldN ht (Nat.le_refl _), ?_⟩
   conv => whnf
   refine vd_pure (ahead_c _ x) ?_
   conv => whnf
   refine br (fun hc => ?_) (fun hc => ?_) <;> (try rw [hc]) <;> (conv => whnf)
   ·have hc' : ah (gI L m) x = false := by simpa using hc
    have hs : ∀ c, 0 < c → c < N → (c - 1) / 2 = a → ah (gI L c) x = false := fun c h0 hcn hpc => ah_tt (hmin (by omega) c h0 hcn hpc) hc'
    refine hdone _ rfl rfl rfl fun c h0 hcn hpc => ?_
    rw [List.length_set] at hcn
    rw [gI_at hal, gI_ne hal (by omega)]
    exact hs c h0 (by omega) hpc
   ·have hc' : ah (gI L m) x = true := by simpa using hc
    refine ⟨_, hh.row, ?_⟩
    conv => whnf
    refine ⟨_, idx_slS3 hlt, ?_⟩
    conv => whnf
    refine ⟨_, hh.one hlt, ?_⟩
    conv => whnf
    refine lay_o hh hal (hsm m (by omega) (by omega)) (by omega) fun h' hh' fr => ?_
    conv => whnf
    refine vc_slots 3 [(0, .ptr p 0), (1, .int .i64 ((m : Nat) : Int)), (4, .ptr t 0)] ⟨rfl, rfl, rfl, trivial⟩ ?_
    exact hstep m h' (by omega) (by omega) (by omega) hc' (hmin (by omega)) hh' fr

theorem down_o {h : Heap} {p r cap : Nat} {op : Bool} {L : List Id} {P : Nat → Nat} {rest : List AV} {a : Nat} (hh : HAt h p r cap op L P rest) (ha : a < L.length) (hN : L.length < 2 ^ 60) (hp : PlV L P a) (hu : Hdn L a) {Q : AV → Heap → Prop}
  (hQ : ∀ h' L' P', HAt h' p r cap op L' P' rest → L'.length = L.length → PlF L' P' → Hp L' → Same L L' → Fr h h' [p, r] → Q (.tup []) h') : VD fs ms f_rank_heaped_down [.ptr p 0, .int .i64 ((a : Nat) : Int)] h Q := by
 refine vd_begin (af := C_rank_heaped_down) rfl (yB rfl) ?_
 conv => whnf
 refine vc_seq true ?_
 conv => whnf
 refine ⟨_, hh.row, ?_⟩
 conv => whnf
 refine ⟨_, idx_slS3 ha, ?_⟩
 conv => whnf
 refine ⟨_, hh.one ha, ?_⟩
 conv => whnf
 refine ⟨_, _, sto_o get_new_same rfl (Nat.le_refl _) rfl, ?_⟩
 conv => whnf
 refine vc_seqV (vc_block ?_)
 refine vc_slots 3 [(0, .ptr p 0), (1, .int .i64 ((a : Nat) : Int)), (4, .ptr h.next 0)] ⟨rfl, rfl, rfl, trivial⟩ ?_
 have n1 : h.next ≠ p := by have := hh.lp; omega
 have n2 : h.next ≠ r := by have := hh.lr; omega
 refine down_loop (x := gI L a) (N := L.length) hN n1 n2 _ _ a _ L P rfl ((hh.new _).set _ n1 n2) (Nat.lt_succ_self _) (by rw [get_set_same]; rfl) ha rfl (by rw [set_gI ha]; exact hp) (by rw [set_gI ha]; exact hu) ?_
 intro a' h1 L1 P1 e1 g0 g1 g4 k1 k2 k3 k4 k5 k6 k7 k9
 rw [set_gI ha] at k7
 show VC fs ms _ _ _ _ _ _
 refine vc_slots 3 [(0, .ptr p 0), (1, .int .i64 ((a' : Nat) : Int)), (4, .ptr h.next 0)] ⟨g0, g1, g4, trivial⟩ (vpC_sound (z := true) ?_)
 conv => whnf
 refine ⟨_, ldN k2 (Nat.le_refl _), ?_⟩
 conv => whnf
 have hsm : (gI L a).1 < 64 := hp.small a ha
 have hal : a' < L1.length := by omega
 refine lay_o (x := gI L a) k1 hal hsm (by omega) fun h2 hh2 fr2 => ?_
 conv => whnf
 have hfin := k5.fill
 rw [gI_at hal] at hfin
 refine hQ h2 _ _ hh2 (by rw [List.length_set]; exact k4) hfin k6 k7 ?_
 exact (((Fr.refl h [p, r]).new (x := _)).setn (Nat.le_refl _)).trans (k9.trans fr2)

theorem PlF.vac {L : List Id} {P : Nat → Nat} (h : PlF L P) {a : Nat} (ha : a < L.length) : PlV L P a := ⟨ha, h.small, h.dist, fun i hi _ => h.pl i hi, fun d hd _ hp => h.back d hd hp⟩

theorem pre_sl {b n cap k size : Nat} {op : Bool} (h : k ≤ cap) : pV (.slice size false true false) [.sl b 0 n cap op, .int .i64 ((k : Nat) : Int)] = some (.sl b 0 k cap op) := by
 have b1 : Nat.ble k cap = true := Nat.ble_eq_true_of_le h
 have b2 : Nat.ble cap cap = true := Nat.ble_eq_true_of_le (Nat.le_refl _)
 have b3 : bounds n cap false true false [.int .i64 ((k : Nat) : Int)] = some (0, k, cap) := by
  show cond (Nat.ble 0 k && Nat.ble k cap && Nat.ble cap cap) (some (0, k, cap)) none = _
  rw [b1, b2]
  rfl
 show sliceF size false true false (.sl b 0 n cap op) [.int .i64 ((k : Nat) : Int)] = _
 simp only [sliceF, dSl, b3]
 have b4 : (Nat.beq cap 0 && Nat.beq cap cap && (op && !false && !Nat.beq 0 0)) = false := by
  have : (op && !false && !Nat.beq 0 0) = false := by cases op <;> rfl
  rw [this, Bool.and_false]
 rw [b4, cond_false, Nat.zero_mul]
 have b5 : (cond (Nat.beq cap 0) 0 0) = 0 := by cases Nat.beq cap 0 <;> rfl
 rw [b5]
 rfl
theorem oc_app (L M : List Id) : oc (L ++ M) = oc L ++ oc M := by simp [oc, obs, flatCells]
theorem oc_one (x : Id) : oc [x] = (ob x).cells := by simp [oc, obs, flatCells]
theorem gI_app {M : List Id} {x : Id} {i : Nat} (h : i < M.length) : gI (M ++ [x]) i = gI M i := by
 rw [gI_eq (by rw [List.length_append]; omega), gI_eq h, List.getElem_append_left h]
theorem gI_end {M : List Id} {x : Id} : gI (M ++ [x]) M.length = x := by
 rw [gI_eq (by rw [List.length_append]; exact Nat.lt_succ_self _)]
 simp
theorem mem_gI {L : List Id} {y : Id} : y ∈ L ↔ ∃ i, i < L.length ∧ gI L i = y := by
 rw [List.mem_iff_getElem]
 constructor
 ·rintro ⟨i, h, e⟩
  exact ⟨i, h, by rw [gI_eq h, e]⟩
 ·rintro ⟨i, h, e⟩
  exact ⟨i, h, by rw [← gI_eq h, e]⟩
theorem Same.mem {L M : List Id} (h : Same L M) {y : Id} : y ∈ M ↔ y ∈ L := by rw [mem_gI, mem_gI]; exact (h.2 y).symm

theorem HAt.setP {h : Heap} {p r cap : Nat} {op : Bool} {L : List Id} {P : Nat → Nat} {rest : List AV} (hh : HAt h p r cap op L P rest) {i : Nat} (hi : i < 64) (v : Nat) {es : Nat} (he : es = 0) :
  HAt (h.set p (.cells (Heap.splice (.sl r 0 L.length cap op :: plc P) (1 + i * 1) [.int .i64 ((v : Nat) : Int)]) true es)) p r cap op L (upd P i v) rest := by
 subst he
 exact ⟨by rw [get_set_same, plc_set hi], by rw [get_set_ne hh.ne.symm]; exact hh.hr, hh.ne, hh.lp, hh.lr⟩
theorem HAt.pop {h : Heap} {p r cap : Nat} {op : Bool} {M : List Id} {x : Id} {P : Nat → Nat} {rest : List AV} (hh : HAt h p r cap op (M ++ [x]) P rest) {es : Nat} (he : es = 0) :
  HAt (h.set p (.cells (Heap.splice (.sl r 0 (M ++ [x]).length cap op :: plc P) 0 [.sl r 0 M.length cap op]) true es)) p r cap op M P ((ob x).cells ++ rest) := by
 subst he
 refine ⟨?_, ?_, hh.ne, hh.lp, hh.lr⟩
 ·rw [get_set_same]
  show some (Blk.cells (.sl r 0 M.length cap op :: Heap.splice (plc P) 0 []) true 0) = _
  rw [splice_nil]
 ·rw [get_set_ne hh.ne.symm, hh.hr, oc_app, oc_one, List.append_assoc]

theorem cut_last {M : List Id} {x : Id} {P : Nat → Nat} (hf : PlF (M ++ [x]) P) : PlF M (upd P x.1 0) := by
 have hl : (M ++ [x]).length = M.length + 1 := by simp
 have hx := hf.pl M.length (by omega)
 rw [gI_end] at hx
 refine ⟨fun i hi => ?_, fun i hi => ?_, fun d hd hp => ?_⟩
 ·rw [← gI_app (x := x) hi]; exact hf.small i (by omega)
 ·have := hf.pl i (by omega)
  rw [gI_app hi] at this
  unfold upd
  rw [if_neg (by intro e; rw [e] at this; omega)]
  exact this
 ·unfold upd at hp ⊢
  split at hp
  ·omega
  ·rename_i hne
   rw [if_neg hne]
   have hb := hf.back d hd hp
   rw [hl] at hb
   have : P d ≠ M.length + 1 := by
    intro e
    rw [e] at hb
    have e2 := hb.2
    rw [show M.length + 1 - 1 = M.length by omega, gI_end] at e2
    exact hne e2.symm
   refine ⟨by omega, ?_⟩
   rw [← gI_app (x := x) (by omega)]
   exact hb.2
theorem hp_pre {M : List Id} {x : Id} (h : Hp (M ++ [x])) : Hp M := by
 intro i h0 hi
 have := h i h0 (by simp; omega)
 rwa [gI_app hi, gI_app (by omega)] at this
theorem cut_mid {M : List Id} {x : Id} {P : Nat → Nat} {a : Nat} (ha : a < M.length) (hf : PlF (M ++ [x]) P) : PlF (M.set a x) (upd (upd P (gI M a).1 0) x.1 (a + 1)) := by
 have hl : (M ++ [x]).length = M.length + 1 := by simp
 have hx := hf.pl M.length (by omega)
 rw [gI_end] at hx
 have hA := hf.pl a (by omega)
 rw [gI_app ha] at hA
 refine ⟨fun i hi => ?_, fun i hi => ?_, fun d hd hp => ?_⟩
 ·rw [gI_set ha]
  split
  ·have := hf.small M.length (by omega)
   rwa [gI_end] at this
  ·rw [List.length_set] at hi
   rw [← gI_app (x := x) hi]; exact hf.small i (by omega)
 ·rw [List.length_set] at hi
  rw [gI_set ha]
  unfold upd
  split
  ·rename_i e
   rw [if_pos rfl, e]
  ·rename_i e
   have := hf.pl i (by omega)
   rw [gI_app hi] at this
   rw [if_neg (by intro e; rw [e] at this; omega), if_neg (by intro e; rw [e] at this; omega)]
   exact this
 ·rw [List.length_set]
  unfold upd at hp ⊢
  by_cases e : d = x.1
  ·rw [if_pos e]
   refine ⟨by omega, ?_⟩
   rw [show a + 1 - 1 = a by omega, gI_at ha, e]
  ·rw [if_neg e] at hp ⊢
   by_cases e2 : d = (gI M a).1
   ·rw [if_pos e2] at hp; omega
   ·rw [if_neg e2] at hp ⊢
    have hb := hf.back d hd hp
    rw [hl] at hb
    have n1 : P d ≠ M.length + 1 := by
     intro e3
     rw [e3] at hb
     have e4 := hb.2
     rw [show M.length + 1 - 1 = M.length by omega, gI_end] at e4
     exact e e4.symm
    have n2 : P d - 1 ≠ a := by
     intro e3
     have e4 := hb.2
     rw [e3, gI_app ha] at e4
     exact e2 e4.symm
    refine ⟨by omega, ?_⟩
    rw [gI_ne ha n2, ← gI_app (x := x) (by omega)]
    exact hb.2
theorem cut_hup {M : List Id} {x : Id} {a : Nat} (ha : a < M.length) (h : Hp (M ++ [x])) : Hup (M.set a x) a := by
 have h := hp_pre h
 refine ⟨fun i h0 hi h1 h2 => ?_, fun c h0 hc hp h1 => ?_⟩
 ·rw [gI_ne ha h1, gI_ne ha h2]
  exact h i h0 (by simpa using hi)
 ·rw [List.length_set] at hc
  rw [gI_ne ha (by omega), gI_ne ha (by omega)]
  have k1 := h c h0 hc
  have k2 := h a h1 ha
  rw [hp] at k1
  exact ah_tt k1 k2
theorem cut_mem {M : List Id} {x : Id} {P : Nat → Nat} {a : Nat} (ha : a < M.length) (hf : PlF (M ++ [x]) P) (y : Id) : y ∈ M.set a x ↔ y ∈ M ++ [x] ∧ y.1 ≠ (gI (M ++ [x]) a).1 := by
 have hl : (M ++ [x]).length = M.length + 1 := by simp
 rw [mem_gI, mem_gI]
 constructor
 ·rintro ⟨i, hi, e⟩
  rw [List.length_set] at hi
  rw [gI_set ha] at e
  split at e
  ·subst e
   refine ⟨⟨M.length, by omega, gI_end⟩, fun e2 => ?_⟩
   have := hf.dist M.length a (by omega) (by omega) (by rw [gI_end]; exact e2)
   omega
  ·rename_i hne
   subst e
   refine ⟨⟨i, by omega, gI_app hi⟩, fun e2 => ?_⟩
   rw [← gI_app (x := x) hi] at e2
   exact hne (hf.dist i a (by omega) (by omega) e2)
 ·rintro ⟨⟨i, hi, e⟩, hne⟩
  by_cases h1 : i = M.length
  ·subst h1
   rw [gI_end] at e
   exact ⟨a, by rw [List.length_set]; exact ha, by rw [gI_at ha, e]⟩
  ·refine ⟨i, by rw [List.length_set]; omega, ?_⟩
   rw [gI_ne ha, ← gI_app (x := x) (by omega), e]
   rintro rfl
   rw [e] at hne
   exact hne rfl
theorem last_mem {M : List Id} {x : Id} {P : Nat → Nat} (hf : PlF (M ++ [x]) P) (y : Id) : y ∈ M ↔ y ∈ M ++ [x] ∧ y.1 ≠ (gI (M ++ [x]) M.length).1 := by
 have hl : (M ++ [x]).length = M.length + 1 := by simp
 rw [gI_end]
 constructor
 ·intro h
  refine ⟨List.mem_append_left _ h, fun e => ?_⟩
  obtain ⟨i, hi, e2⟩ := mem_gI.1 h
  have := hf.dist i M.length (by omega) (by omega) (by rw [gI_app hi, gI_end, e2, e])
  omega
 ·rintro ⟨h, hne⟩
  rcases List.mem_append.1 h with h | h
  ·exact h
  ·simp at h
   subst h
   exact absurd rfl hne
end Ir
end Go.Proofs.YtnlcabhfkpafmaaGreat
namespace Go.Proofs.YtnlcabhfkpafmaaGreat
open Go Ads
namespace Ads
end Ads
namespace Ir

theorem len_pred {M : List Id} {x : Id} : IntKind.i64.wrap (((M ++ [x]).length : Int) - 1) = ((M.length : Nat) : Int) ∨ 2 ^ 62 ≤ M.length := by
 by_cases h : M.length < 2 ^ 62
 ·left
  rw [List.length_append, show (((M.length + [x].length : Nat)) : Int) - 1 = ((M.length : Nat) : Int) by simp, wrap_nat (by omega)]
 ·right; omega
theorem cut_o {h : Heap} {p r cap : Nat} {op : Bool} {M : List Id} {x : Id} {P : Nat → Nat} {rest : List AV} {a : Nat} (hh : HAt h p r cap op (M ++ [x]) P rest) (ha : a < M.length + 1) (hN : M.length + 1 < 2 ^ 60) (hc : M.length + 1 ≤ cap) (hf : PlF (M ++ [x]) P) (hp : Hp (M ++ [x])) {Q : AV → Heap → Prop}
  (hQ : ∀ h' L' P', HAt h' p r cap op L' P' ((ob x).cells ++ rest) → L'.length = M.length → PlF L' P' → Hp L' → (∀ y, y ∈ L' ↔ y ∈ M ++ [x] ∧ y.1 ≠ (gI (M ++ [x]) a).1) → Fr h h' [p, r] → Q (.tup []) h') : VD fs ms f_rank_heaped_cut [.ptr p 0, .int .i64 ((a : Nat) : Int)] h Q := by
 have hl : (M ++ [x]).length = M.length + 1 := by simp
 have hlp := (len_pred (M := M) (x := x)).resolve_right (by omega)
 refine vd_start (af := C_rank_heaped_cut) true rfl (yB rfl) ?_
 conv => whnf
 refine ⟨_, hh.row, ?_⟩
 conv => whnf
 refine ⟨_, hh.row, ?_⟩
 conv => whnf
 rw [hlp]
 refine ⟨_, idx_slS3 (by omega), ?_⟩
 conv => whnf
 refine ⟨_, hh.one (by omega), ?_⟩
 conv => whnf
 rw [gI_end]
 have n1 : h.next ≠ p := by have := hh.lp; omega
 have n2 : h.next ≠ r := by have := hh.lr; omega
 refine eff_o (sto_o get_new_same rfl (Nat.le_refl _) rfl) fun h1 e1 => ?_
 conv => whnf
 have hh1 : HAt h1 p r cap op (M ++ [x]) P rest := by rw [e1]; exact (hh.new _).set _ n1 n2
 have hb1 : h1.get h.next = some (.cells (ob x).cells true 0) := by rw [e1, get_set_same]; rfl
 have fr1 : Fr h h1 [p, r] := by rw [e1]; exact ((Fr.refl h [p, r]).new (x := _)).setn (Nat.le_refl _)
 have lt1 : h.next < h1.next := by rw [e1]; exact Nat.lt_succ_self _
 clear e1
 refine ⟨_, hh1.row, ?_⟩
 conv => whnf
 refine ⟨_, idx_slS3 (by omega), ?_⟩
 conv => whnf
 refine ⟨_, hh1.id (by omega), ?_⟩
 conv => whnf
 have hsm := hf.small a (by omega)
 refine ⟨_, idx_arr (o := 1) hsm, ?_⟩
 conv => whnf
 refine eff_o (sto_o hh1.hp rfl (by rw [List.length_cons, plc_len]; show 1 + (gI (M ++ [x]) a).1 * 1 + 1 ≤ _; omega) rfl) fun h2 e2 => ?_
 conv => whnf
 have hh2 : HAt h2 p r cap op (M ++ [x]) (upd P (gI (M ++ [x]) a).1 0) rest := by rw [e2]; exact hh1.setP hsm 0 rfl
 have hb2 : h2.get h.next = some (.cells (ob x).cells true 0) := by rw [e2, get_set_ne n1]; exact hb1
 have fr2 : Fr h h2 [p, r] := by rw [e2]; exact fr1.set (by simp)
 have lt2 : h.next < h2.next := by rw [e2]; exact lt1
 clear e2
 refine ⟨_, hh2.row, ?_⟩
 conv => whnf
 refine ⟨_, pre_sl (by omega), ?_⟩
 conv => whnf
 refine eff_o (sto_o hh2.hp rfl (by rw [List.length_cons]; show 0 + 1 ≤ _; omega) rfl) fun h3 e3 => ?_
 conv => whnf
 have hh3 : HAt h3 p r cap op M (upd P (gI (M ++ [x]) a).1 0) ((ob x).cells ++ rest) := by rw [e3]; exact hh2.pop rfl
 have hb3 : h3.get h.next = some (.cells (ob x).cells true 0) := by rw [e3, get_set_ne n1]; exact hb2
 have fr3 : Fr h h3 [p, r] := by rw [e3]; exact fr2.set (by simp)
 have lt3 : h.next < h3.next := by rw [e3]; exact lt2
 clear e3
 refine br (fun hc => ?_) (fun hc => ?_) <;> (try rw [hc]) <;> (conv => whnf)
 ·have hc' : a = M.length := by simp at hc; omega
  subst hc'
  refine hQ h3 M _ hh3 rfl ?_ (hp_pre hp) (last_mem hf) fr3
  rw [gI_end]
  exact cut_last hf
 ·have hc' : a ≠ M.length := by simp at hc; omega
  have ha' : a < M.length := by omega
  refine ⟨_, ldN hb3 (Nat.le_refl _), ?_⟩
  conv => whnf
  have hxs : x.1 < 64 := by have := hf.small M.length (by omega); rwa [gI_end] at this
  refine lay_o (x := x) hh3 ha' hxs (by omega) fun h4 hh4 fr4 => ?_
  conv => whnf
  have hb4 : h4.get h.next = some (.cells (ob x).cells true 0) := by rw [fr4.keep _ lt3 (by simp [n1, n2])]; exact hb3
  rw [gI_app ha'] at hh4
  have hpf := cut_mid ha' hf
  refine up_o hh4 (by rw [List.length_set]; exact ha') (by rw [List.length_set]; omega) (hpf.vac (by rw [List.length_set]; exact ha')) (cut_hup ha' hp) fun h5 L5 P5 a5 hh5 k1 k2 k3 k4 k5 k6 k7 fr5 => ?_
  conv => whnf
  rw [List.length_set] at k1
  have hb5 : h5.get h.next = some (.cells (ob x).cells true 0) := by rw [fr5.keep _ (Nat.lt_of_lt_of_le lt3 fr4.next) (by simp [n1, n2])]; exact hb4
  refine ⟨_, ld1 hb5 rfl, ?_⟩
  conv => whnf
  refine ⟨_, idx_arr (o := 1) hxs, ?_⟩
  conv => whnf
  refine ⟨_, hh5.place hxs, ?_⟩
  conv => whnf
  have hpa := k3.pl a5 k2
  rw [k5, gI_at ha'] at hpa
  rw [hpa, show IntKind.i64.wrap (((a5 + 1 : Nat) : Int) - 1) = ((a5 : Nat) : Int) by rw [show ((a5 + 1 : Nat) : Int) - 1 = ((a5 : Nat) : Int) by omega, wrap_nat (by omega)]]
  refine down_o hh5 k2 (by omega) (k3.vac k2) k4 fun h6 L6 P6 hh6 j1 j2 j3 j4 fr6 => ?_
  conv => whnf
  refine hQ h6 L6 P6 hh6 (by omega) j2 j3 (fun y => ?_) (fr3.trans (fr4.trans (fr5.trans fr6)))
  rw [j4.mem, k6.mem]
  exact cut_mem ha' hf y
theorem pig : ∀ (n : Nat) (l : List Nat), l.Nodup → (∀ x ∈ l, x < n) → l.length ≤ n := by
 intro n
 induction n with
 | zero =>
  intro l _ h
  cases l with
  | nil => simp
  | cons x l => exact absurd (h x (by simp)) (by omega)
 | succ n ih =>
  intro l hn h
  by_cases hm : n ∈ l
  ·have h1 := ih (l.erase n) (hn.erase n) (by
    intro x hx
    have h2 := (List.Nodup.mem_erase_iff hn).1 hx
    have := h x h2.2
    have := h2.1
    omega)
   rw [List.length_erase_of_mem hm] at h1
   omega
  ·have := ih l hn (by
    intro x hx
    have := h x hx
    have : x ≠ n := by rintro rfl; exact hm hx
    omega)
   omega
theorem PlF.nodup {L : List Id} {P : Nat → Nat} (h : PlF L P) : (L.map (·.1)).Nodup := by
 show List.Pairwise (· ≠ ·) _
 rw [List.pairwise_iff_getElem]
 intro i j hi hj hij e
 rw [List.length_map] at hi hj
 rw [List.getElem_map, List.getElem_map] at e
 have := h.dist i j hi hj (by rw [gI_eq hi, gI_eq hj]; exact e)
 omega
theorem PlF.len {L : List Id} {P : Nat → Nat} (h : PlF L P) {n : Nat} (hn : ∀ y ∈ L, y.1 < n) : L.length ≤ n := by
 have := pig n (L.map (·.1)) h.nodup (by
  intro x hx
  obtain ⟨y, hy, rfl⟩ := List.mem_map.1 hx
  exact hn y hy)
 rwa [List.length_map] at this
theorem PlF.len64 {L : List Id} {P : Nat → Nat} (h : PlF L P) : L.length ≤ 64 := h.len fun y hy => by
 obtain ⟨i, hi, rfl⟩ := mem_gI.1 hy
 exact h.small i hi
theorem PlF.no {L : List Id} {P : Nat → Nat} (h : PlF L P) {i : Nat} (h0 : P i = 0) : ∀ y ∈ L, y.1 ≠ i := by
 intro y hy e
 obtain ⟨j, hj, rfl⟩ := mem_gI.1 hy
 have := h.pl j hj
 rw [e] at this
 omega

def Row (h : Heap) (k p : Nat) (S : List Nat) (L : List Id) (P : Nat → Nat) : Prop :=
 (L = [] ∧ S = [k, p] ∧ h.get p = some (.cells (.nils :: plc P) true 0)) ∨
 ∃ r cap rest, S = [k, p, r] ∧ r ≠ k ∧ L.length * 2 + rest.length = cap * 2 ∧ HAt h p r cap true L P rest
structure RAt (h : Heap) (k p : Nat) (S : List Nat) (L : List Id) (P : Nat → Nat) : Prop where
 hk : h.get k = some (.cells [.ptr p 0] true 0)
 ne : k ≠ p
 lk : k < h.next
 lp : p < h.next
 row : Row h k p S L P
 pl : PlF L P
 hp : Hp L
structure Own (h h' : Heap) (S S' : List Nat) : Prop where
 fr : Fr h h' S
 new : ∀ b ∈ S', b ∈ S ∨ h.next ≤ b

theorem none_o {h : Heap} {k p : Nat} {S : List Nat} {L : List Id} {P : Nat → Nat} (hr : RAt h k p S L P) {Q : AV → Heap → Prop} (hQ : Q (.bool false) h) : VD fs ms f_rank_Rank_none [.ptr k 0] h Q := by
 refine vd_start (af := C_rank_Rank_none) true rfl (yB rfl) ?_
 conv => whnf
 refine ⟨_, ld1 hr.hk rfl, ?_⟩
 conv => whnf
 exact hQ
theorem asked_o {h : Heap} {k p : Nat} {S : List Nat} {L : List Id} {P : Nat → Nat} (hr : RAt h k p S L P) (id : Int) {Q : AV → Heap → Prop} (hQ : Q (.int .i64 (if id < 0 ∨ 64 ≤ id then 9 else 0)) h) : VD fs ms f_rank_Rank_asked [.ptr k 0, .int .i64 id] h Q := by
 refine vd_start (af := C_rank_Rank_asked) true rfl (yB rfl) ?_
 conv => whnf
 refine none_o hr ?_
 conv => whnf
 refine br (fun hc => ?_) (fun hc => ?_) <;> (try rw [hc]) <;> (conv => whnf)
 ·have : id < 0 := of_decide_eq_true hc
  rw [if_pos (.inl this)] at hQ
  exact hQ
 ·have h1 : ¬ id < 0 := of_decide_eq_false hc
  refine br (fun hc => ?_) (fun hc => ?_) <;> (try rw [hc]) <;> (conv => whnf)
  ·have : 64 ≤ id := of_decide_eq_true hc
   rw [if_pos (.inr this)] at hQ
   exact hQ
  ·have h2 : ¬ 64 ≤ id := of_decide_eq_false hc
   rw [if_neg (by omega)] at hQ
   exact hQ
theorem Row.place {h : Heap} {k p : Nat} {S : List Nat} {L : List Id} {P : Nat → Nat} (hr : Row h k p S L P) {i : Nat} (hi : i < 64) : rV .load1 [.ptr p (1 + i * 1)] h = some (.int .i64 ((P i : Nat) : Int)) := by
 rcases hr with ⟨_, _, hg⟩ | ⟨r, cap, rest, _, _, _, hh⟩
 ·refine ld1 hg ?_
  rw [show 1 + i * 1 = i + 1 by omega, List.getElem?_cons_succ]
  exact plc_get hi
 ·exact hh.place hi
theorem at_o {h : Heap} {k p : Nat} {S : List Nat} {L : List Id} {P : Nat → Nat} (hr : RAt h k p S L P) (id : Int) {Q : AV → Heap → Prop} (h1 : id < 0 ∨ 64 ≤ id → Q (.tup [.int .i64 0, .bool false]) h)
  (h2 : ∀ i : Nat, id = i → i < 64 → P i = 0 → Q (.tup [.int .i64 (-1), .bool false]) h)
  (h3 : ∀ i j : Nat, id = i → i < 64 → j < L.length → P i = j + 1 → (gI L j).1 = i → Q (.tup [.int .i64 ((j : Nat) : Int), .bool true]) h) : VD fs ms f_rank_Rank_at [.ptr k 0, .int .i64 id] h Q := by
 refine vd_start (af := C_rank_Rank_at) true rfl (yB rfl) ?_
 conv => whnf
 refine asked_o hr id ?_
 conv => whnf
 by_cases hb : id < 0 ∨ 64 ≤ id
 ·rw [if_pos hb]
  conv => whnf
  exact h1 hb
 ·rw [if_neg hb]
  conv => whnf
  obtain ⟨i, rfl⟩ : ∃ i : Nat, id = i := ⟨id.toNat, by omega⟩
  have hi : i < 64 := by omega
  refine ⟨_, ld1 hr.hk rfl, ?_⟩
  conv => whnf
  refine ⟨_, idx_arr (o := 1) hi, ?_⟩
  conv => whnf
  refine ⟨_, hr.row.place hi, ?_⟩
  conv => whnf
  refine ⟨_, ld1 hr.hk rfl, ?_⟩
  conv => whnf
  refine ⟨_, idx_arr (o := 1) hi, ?_⟩
  conv => whnf
  refine ⟨_, hr.row.place hi, ?_⟩
  conv => whnf
  by_cases h0 : P i = 0
  ·have := h2 i rfl hi h0
   rw [h0]
   exact this
  ·have hb := hr.pl.back i hi (by omega)
   have hle := hr.pl.len64
   obtain ⟨j, hj⟩ : ∃ j, P i = j + 1 := ⟨P i - 1, by omega⟩
   rw [hj] at hb ⊢
   have := h3 i j rfl hi (by omega) hj hb.2
   rw [show IntKind.i64.wrap (((j + 1 : Nat) : Int) - 1) = ((j : Nat) : Int) by rw [show ((j + 1 : Nat) : Int) - 1 = ((j : Nat) : Int) by omega, wrap_nat (by omega)], show decide ((0 : Int) < ((j + 1 : Nat) : Int)) = true from decide_eq_true (by omega)]
   exact this
end Ir
end Go.Proofs.YtnlcabhfkpafmaaGreat
namespace Go.Proofs.YtnlcabhfkpafmaaGreat
open Go Ads
namespace Ads
theorem get_del_ne {h : Heap} {b c : Nat} (hn : c ≠ b) : (h.del b).get c = h.get c := by rw [Heap.get_del, if_neg hn]
theorem src_new {h : Heap} {b s n cap : Nat} {op wr : Bool} {es : Nat} {cs : List AV} (hg : h.get b = some (.cells cs wr es)) (hl : cs.length = n * s) : srcV s h (.sl b 0 n cap op) = some (n, cs) := by
 have b1 : Nat.ble (0 + n * s) cs.length = true := Nat.ble_eq_true_of_le (by omega)
 show (h.loadN b 0 (n * s)).map _ = _
 have : h.loadN b 0 (n * s) = some cs := by
  simp only [Heap.loadN, Heap.row, hg, b1, cond_true, List.drop_zero]
  rw [← hl, List.take_length]
 rw [this]
 rfl
theorem app_full {h : Heap} {s bytes b m : Nat} {vs cs : List AV} {x : AV} (hg : h.get b = some (.cells vs true s)) (hv : vs.length = m * s) (hsrc : srcV s h x = some (1, cs)) (hf : flatL cs = true) (hb : bytes ≤ 1048576) (hm : m ≤ 1048576) :
  eV (.append s bytes) [.sl b 0 m m true, x] h = some (.sl h.next 0 (m + 1) (m + 1) true, (h.del b).new (.cells (vs ++ cs) true s)) := by
 have hmu : (m + 1) * bytes ≤ 1048577 * 1048576 := Nat.mul_le_mul (by omega) hb
 have b1 : Nat.ble (m + 1) m = false := by cases hb : Nat.ble (m + 1) m with | false => rfl | true => (have := Nat.le_of_ble_eq_true hb; omega)
 have b2 : Nat.ble ((m + 1) * bytes) 140737488355328 = true := Nat.ble_eq_true_of_le (by omega)
 have b3 : Nat.ble (m + 1) 9223372036854775807 = true := Nat.ble_eq_true_of_le (by omega)
 have b4 : Nat.ble (0 + m * s) vs.length = true := Nat.ble_eq_true_of_le (by omega)
 have b5 : Nat.beq vs.length (0 + m * s) = true := by rw [hv, Nat.zero_add]; exact Nat.beq_refl _
 have hld : h.loadN b 0 (m * s) = some vs := by
  simp only [Heap.loadN, Heap.row, hg, b4, cond_true, List.drop_zero]
  rw [← hv, List.take_length]
 simp only [eV, l2, hsrc]
 show cond (flatL cs) _ _ = _
 rw [hf, cond_true]
 show cond (Nat.beq 1 0 && Nat.ble m m) _ _ = _
 rw [show Nat.beq 1 0 = false from rfl, Bool.false_and, cond_false, b1, cond_false, b2, b3, Bool.and_self, cond_true, hg, hld]
 show cond true (cond (true && Nat.beq vs.length (0 + m * s) && Nat.beq m m && Nat.beq s s) _ _) _ = _
 rw [b5, Nat.beq_refl, Nat.beq_refl]
 rfl
end Ads
namespace Ir

theorem Row.app {h : Heap} {k p : Nat} {S : List Nat} {L : List Id} {P : Nat → Nat} (hr : Row h k p S L P) (kp : k ≠ p) (lk : k < h.next) (lp : p < h.next) (h64 : L.length ≤ 64) (x : Id) {src : AV} {cap0 : Nat} {op wr : Bool} {es : Nat} (hs : src = .sl h.next 0 1 cap0 op) {g : Heap} (hg : g = h.new (.cells (ob x).cells wr es)) :
  ∃ rv, h.get p = some (.cells (rv :: plc P) true 0) ∧ ∃ rv' g', eV (.append 2 16) [rv, src] g = some (rv', g') ∧ Fr h g' S ∧ g'.get k = h.get k ∧ g'.get p = h.get p ∧ h.next ≤ g'.next ∧
   ∃ r cap rest, rv' = .sl r 0 (L.length + 1) cap true ∧ r ≠ k ∧ r ≠ p ∧ r < g'.next ∧ g'.get r = some (.cells (oc (L ++ [x]) ++ rest) true 2) ∧ (L.length + 1) * 2 + rest.length = cap * 2 ∧ (r ∈ S ∨ h.next ≤ r) := by
 subst hs
 have hsrc : srcV 2 g (.sl h.next 0 1 cap0 op) = some (1, (ob x).cells) := src_new (by rw [hg]; exact get_new_same) rfl
 have gn : g.next = h.next + 1 := by rw [hg]; rfl
 have frg : Fr h g S := by rw [hg]; exact (Fr.refl h S).new
 rcases hr with ⟨hL, hS, hp⟩ | ⟨r, cap, rest, hS, hrk, hcap, hh⟩
 ·subst hL
  refine ⟨.nils, hp, .sl g.next 0 1 1 true, g.new (.cells (ob x).cells true 2), app_nilsS (nx := g.next) (tr := g.m) (by omega) hsrc rfl, frg.new, ?_, ?_, ?_, g.next, 1, [], rfl, by omega, by omega, Nat.lt_succ_self _, ?_, rfl, .inr (by omega)⟩
  ·rw [get_new_ne (by omega), hg, get_new_ne lk]
  ·rw [get_new_ne (by omega), hg, get_new_ne lp]
  ·show h.next ≤ g.next + 1; omega
  ·rw [get_new_same]; simp [oc_one]
 ·have hp' : h.get p = some (.cells (.sl r 0 L.length cap true :: plc P) true 0) := hh.hp
  have hol := oc_len L
  have hgr : g.get r = some (.cells (oc L ++ rest) true 2) := by rw [hg, get_new_ne hh.lr]; exact hh.hr
  have hrS : r ∈ S := by rw [hS]; simp
  have hpr := hh.ne
  have hlr := hh.lr
  by_cases hroom : L.length < cap
  ·have happ := app_in (bytes := 16) (nx := g.next) (tr := g.m) (op := true) (l := obs L) (rest := rest) (y := ob x) hgr rfl (size_obs L) (len_obs L).symm hroom (by omega) hsrc rfl rfl
   refine ⟨_, hp', _, _, happ, ?_, ?_, ?_, ?_, r, cap, rest.drop 2, rfl, hrk, hpr.symm, ?_, ?_, ?_, .inl hrS⟩
   ·exact Fr.set (h1 := g) frg hrS
   ·rw [show Heap.get (⟨g.next, Tr.set g.m r (.cells (flatCells (obs L ++ [ob x]) ++ rest.drop 2) true 2)⟩ : Heap) k = (g.set r (.cells (flatCells (obs L ++ [ob x]) ++ rest.drop 2) true 2)).get k from rfl, get_set_ne (Ne.symm hrk), hg, get_new_ne lk]
   ·rw [show Heap.get (⟨g.next, Tr.set g.m r (.cells (flatCells (obs L ++ [ob x]) ++ rest.drop 2) true 2)⟩ : Heap) p = (g.set r (.cells (flatCells (obs L ++ [ob x]) ++ rest.drop 2) true 2)).get p from rfl, get_set_ne hpr, hg, get_new_ne lp]
   ·show h.next ≤ g.next; omega
   ·show r < g.next; omega
   ·rw [show Heap.get (⟨g.next, Tr.set g.m r (.cells (flatCells (obs L ++ [ob x]) ++ rest.drop 2) true 2)⟩ : Heap) r = (g.set r (.cells (flatCells (obs L ++ [ob x]) ++ rest.drop 2) true 2)).get r from rfl, get_set_same]
    simp [oc, obs]
   ·rw [List.length_drop]; omega
  ·have hc : cap = L.length := by omega
   have hr0 : rest = [] := List.eq_nil_of_length_eq_zero (by omega)
   subst hr0
   subst hc
   rw [List.append_nil] at hgr
   refine ⟨_, hp', _, _, app_full (bytes := 16) hgr hol hsrc rfl (by omega) (by omega), ?_, ?_, ?_, ?_, g.next, L.length + 1, [], rfl, by omega, by omega, Nat.lt_succ_self _, ?_, by simp, .inr (by omega)⟩
   ·refine ⟨?_, fun c hc hn => ?_⟩
    ·show h.next ≤ g.next + 1; omega
    ·rw [get_new_ne (show c < (g.del r).next by show c < g.next; omega), get_del_ne (by rintro rfl; exact hn hrS)]
     exact frg.keep c hc hn
   ·rw [get_new_ne (show k < (g.del r).next by show k < g.next; omega), get_del_ne (Ne.symm hrk), hg, get_new_ne lk]
   ·rw [get_new_ne (show p < (g.del r).next by show p < g.next; omega), get_del_ne hpr, hg, get_new_ne lp]
   ·show h.next ≤ g.next + 1; omega
   ·rw [show g.next = (g.del r).next from rfl, get_new_same, List.append_nil, oc_app, oc_one]

theorem RAt.own {h : Heap} {k p : Nat} {S : List Nat} {L : List Id} {P : Nat → Nat} (hr : RAt h k p S L P) : k ∈ S ∧ p ∈ S ∧ ∀ b ∈ S, b < h.next := by
 rcases hr.row with ⟨_, hS, _⟩ | ⟨r, cap, rest, hS, _, _, hh⟩
 ·subst hS
  refine ⟨by simp, by simp, fun b hb => ?_⟩
  simp at hb
  rcases hb with rfl | rfl
  ·exact hr.lk
  ·exact hr.lp
 ·subst hS
  refine ⟨by simp, by simp, fun b hb => ?_⟩
  simp at hb
  rcases hb with rfl | rfl | rfl
  ·exact hr.lk
  ·exact hr.lp
  ·exact hh.lr
theorem plv_app {L : List Id} {P : Nat → Nat} {x : Id} (hf : PlF L P) (hx : x.1 < 64) (h0 : P x.1 = 0) : PlV (L ++ [x]) P L.length := by
 have hl : (L ++ [x]).length = L.length + 1 := by simp
 refine ⟨by omega, fun i hi => ?_, fun i j hi hj he => ?_, fun i hi hn => ?_, fun d hd hn hp => ?_⟩
 ·by_cases h : i = L.length
  ·subst h; rw [gI_end]; exact hx
  ·rw [gI_app (by omega)]; exact hf.small i (by omega)
 ·have key : ∀ i, i < L.length → (gI L i).1 = x.1 → False := by
   intro i hi e
   have := hf.pl i hi
   rw [e] at this
   omega
  by_cases h1 : i = L.length
  ·subst h1
   by_cases h2 : j = L.length
   ·exact h2.symm
   ·rw [gI_end, gI_app (by omega)] at he
    exact (key j (by omega) he.symm).elim
  ·rw [gI_app (by omega)] at he
   by_cases h2 : j = L.length
   ·subst h2
    rw [gI_end] at he
    exact (key i (by omega) he).elim
   ·rw [gI_app (by omega)] at he
    exact hf.dist i j (by omega) (by omega) he
 ·rw [gI_app (by omega)]
  exact hf.pl i (by omega)
 ·have hb := hf.back d hd hp
  refine ⟨by omega, ?_⟩
  rw [gI_app (by omega)]
  exact hb.2
theorem hup_app {L : List Id} {x : Id} (h : Hp L) : Hup (L ++ [x]) L.length := by
 have hl : (L ++ [x]).length = L.length + 1 := by simp
 refine ⟨fun i h0 hi h1 h2 => ?_, fun c h0 hc hp h1 => by omega⟩
 rw [gI_app (by omega), gI_app (by omega)]
 exact h i h0 (by omega)
theorem hch_app {L : List Id} {x : Id} : Hch (L ++ [x]) L.length := fun c h0 hc hp => by simp at hc; omega

theorem put_o {h : Heap} {k p : Nat} {S : List Nat} {L : List Id} {P : Nat → Nat} (hr : RAt h k p S L P) (id key : Int) {Q : AV → Heap → Prop} (h1 : id < 0 ∨ 64 ≤ id → Q (.int .i64 9) h)
  (h2 : ∀ y, y ∈ L → id = y.1 → Q (.int .i64 141) h)
  (h3 : ∀ i : Nat, id = i → i < 64 → (∀ y ∈ L, y.1 ≠ i) → ∀ h' S' L' P', RAt h' k p S' L' P' → (∀ y, y ∈ L' ↔ y ∈ L ∨ y = (i, key)) → Own h h' S S' → Q (.int .i64 0) h') : VD fs ms f_rank_Rank_Put [.ptr k 0, .int .i64 id, .int .i64 key] h Q := by
 refine vd_start (af := C_rank_Rank_Put) true rfl (yB rfl) ?_
 conv => whnf
 refine asked_o hr id ?_
 conv => whnf
 by_cases hb : id < 0 ∨ 64 ≤ id
 ·rw [if_pos hb]
  conv => whnf
  exact h1 hb
 rw [if_neg hb]
 conv => whnf
 refine at_o hr id (fun h => absurd h hb) (fun i hi i64 h0 => ?_) fun i j hi i64 hj hP hid => ?_
 ·conv => whnf
  subst hi
  refine ⟨_, ld1 hr.hk rfl, ?_⟩
  conv => whnf
  refine ⟨_, ld1 hr.hk rfl, ?_⟩
  conv => whnf
  obtain ⟨kS, pS, hS⟩ := hr.own
  have h64 := hr.pl.len64
  obtain ⟨rv, hrv, rv', g', happ, frg, gk, gp, gn, r, cap, rest, e1, rk, rp, rl, gr, gc, rS⟩ := hr.row.app hr.ne hr.lk hr.lp h64 (i, key) (cap0 := 1) (op := false) (wr := true) (es := 0) rfl (g := h.new (.cells (ob (i, key)).cells true 0)) rfl
  refine ⟨_, ld1 hrv rfl, ?_⟩
  conv => whnf
  refine eff_o happ fun g1 eg => ?_
  subst eg
  conv => whnf
  refine eff_o (sto_o (gp.trans hrv) (by subst e1; rfl) (by rw [List.length_cons]; show 0 + 1 ≤ _; omega) (by subst e1; rfl)) fun g2 e2 => ?_
  conv => whnf
  refine ⟨winOk_of (by (conv => whnf); repeat' (first | exact trivial | (exact ⟨rfl, rfl, .inr ⟨_, _, rfl⟩⟩) | (refine ⟨rfl, rfl, .inl ⟨rfl, fun o ho => ?_⟩⟩; cases ho; first | rfl | (exact ld1 hr.hk rfl) | (exact ld1 (gk.trans hr.hk) rfl)) | (exact ⟨rfl, .inr ⟨_, _, rfl⟩⟩) | (refine ⟨rfl, .inl ⟨rfl, fun i o hi ho => ?_⟩⟩; cases hi; cases ho; first | rfl | (exact ld1 hr.hk rfl) | (exact ld1 (gk.trans hr.hk) rfl)) | (refine And.intro (fun hon => (Bool.false_ne_true hon).elim) ?_ <;> conv => whnf) | (refine And.intro (fun _ => ?_) ?_ <;> conv => whnf) | (refine And.intro ?_ ?_ <;> conv => whnf))), ?_⟩
  conv => whnf
  have hpn := hr.lp
  have hkn := hr.lk
  have gk2 : g2.get k = some (.cells [.ptr p 0] true 0) := by rw [e2, get_set_ne hr.ne]; exact gk.trans hr.hk
  have hh2 : HAt g2 p r cap true (L ++ [(i, key)]) P rest := by
   refine ⟨?_, ?_, rp.symm, ?_, ?_⟩
   ·rw [e2, get_set_same, e1]
    show some (Blk.cells (.sl r 0 (L.length + 1) cap true :: Heap.splice (plc P) 0 []) true 0) = _
    rw [splice_nil, List.length_append]
    rfl
   ·rw [e2, get_set_ne rp]; exact gr
   ·rw [e2]; show p < g1.next; omega
   ·rw [e2]; exact rl
  have fr2 : Fr h g2 S := by rw [e2]; exact frg.set pS
  clear e2
  refine ⟨_, ld1 gk2 rfl, ?_⟩
  conv => whnf
  refine ⟨_, ld1 gk2 rfl, ?_⟩
  conv => whnf
  refine ⟨_, hh2.row, ?_⟩
  conv => whnf
  have hl : (L ++ [((i, key) : Id)]).length = L.length + 1 := by simp
  rw [(len_pred (M := L) (x := (i, key))).resolve_right (by omega)]
  refine up_o hh2 (by omega) (by omega) (plv_app hr.pl i64 h0) (hup_app hr.hp) fun h4 L4 P4 a4 hh4 k1 k2 k3 k4 k5 k6 k7 fr4 => ?_
  conv => whnf
  have kn2 : k < g2.next := Nat.lt_of_lt_of_le hkn fr2.next
  refine h3 i rfl i64 (hr.pl.no h0) h4 [k, p, r] L4 P4 ⟨?_, hr.ne, Nat.lt_of_lt_of_le kn2 fr4.next, hh4.lp, .inr ⟨r, cap, rest, rfl, rk, by omega, hh4⟩, k3, k4.full (k7 hch_app)⟩ (fun y => ?_) ⟨?_, fun b hb => ?_⟩
  ·rw [fr4.keep k kn2 (by simp [hr.ne, Ne.symm rk])]; exact gk2
  ·rw [k6.mem]; simp
  ·refine ⟨Nat.le_trans fr2.next fr4.next, fun b hb hn => ?_⟩
   have hbp : b ≠ p := by rintro rfl; exact hn pS
   have hbr : b ≠ r := by
    rintro rfl
    rcases rS with h | h
    ·exact hn h
    ·omega
   rw [fr4.keep b (Nat.lt_of_lt_of_le hb fr2.next) (by simp [hbp, hbr])]
   exact fr2.keep b hb hn
  ·simp at hb
   rcases hb with rfl | rfl | rfl
   ·exact .inl kS
   ·exact .inl pS
   ·exact rS
 ·conv => whnf
  subst hi
  refine h2 (gI L j) (mem_gI.2 ⟨j, hj, rfl⟩) (by rw [hid])
theorem cut_r {h : Heap} {k p : Nat} {S : List Nat} {L : List Id} {P : Nat → Nat} (hr : RAt h k p S L P) {a : Nat} (ha : a < L.length) {Q : AV → Heap → Prop}
  (hQ : ∀ h' S' L' P', RAt h' k p S' L' P' → L'.length + 1 = L.length → (∀ y, y ∈ L' ↔ y ∈ L ∧ y.1 ≠ (gI L a).1) → Own h h' S S' → Q (.tup []) h') : VD fs ms f_rank_heaped_cut [.ptr p 0, .int .i64 ((a : Nat) : Int)] h Q := by
 rcases hr.row with ⟨hL, _, _⟩ | ⟨r, cap, rest, hS, rk, hcap, hh⟩
 ·subst hL
  simp at ha
 obtain ⟨M, x, rfl⟩ : ∃ M x, L = M ++ [x] := by
  rcases List.eq_nil_or_concat L with rfl | ⟨M, x, rfl⟩
  ·simp at ha
  ·exact ⟨M, x, by simp⟩
 have hl : (M ++ [x]).length = M.length + 1 := by simp
 have h64 := hr.pl.len64
 refine cut_o hh (by omega) (by omega) (by omega) hr.pl hr.hp fun h' L' P' hh' k1 k2 k3 k4 fr => ?_
 subst hS
 refine hQ h' [k, p, r] L' P' ⟨?_, hr.ne, Nat.lt_of_lt_of_le hr.lk fr.next, hh'.lp, .inr ⟨r, cap, _, rfl, rk, ?_, hh'⟩, k2, k3⟩ (by omega) k4 ⟨⟨fr.next, fun b hb hn => fr.keep b hb ?_⟩, fun b hb => .inl hb⟩
 ·rw [fr.keep k hr.lk (by simp [hr.ne, Ne.symm rk])]; exact hr.hk
 ·rw [List.length_append]
  have : (ob x).cells.length = 2 := rfl
  omega
 ·simp at hn ⊢
  exact hn.2

theorem remove_o {h : Heap} {k p : Nat} {S : List Nat} {L : List Id} {P : Nat → Nat} (hr : RAt h k p S L P) (id : Int) {Q : AV → Heap → Prop} (h1 : (∀ y ∈ L, id ≠ (y.1 : Int)) → Q (.bool false) h)
  (h3 : ∀ y : Id, id = (y.1 : Int) → y ∈ L → ∀ h' S' L' P', RAt h' k p S' L' P' → (∀ z, z ∈ L' ↔ z ∈ L ∧ z.1 ≠ y.1) → Own h h' S S' → Q (.bool true) h') : VD fs ms f_rank_Rank_Remove [.ptr k 0, .int .i64 id] h Q := by
 refine vd_start (af := C_rank_Rank_Remove) true rfl (yB rfl) ?_
 conv => whnf
 refine at_o hr id (fun hb => ?_) (fun i hi i64 h0 => ?_) fun i j hi i64 hj hP hid => ?_
 ·conv => whnf
  refine h1 fun y hy e => ?_
  obtain ⟨i, hi, rfl⟩ := mem_gI.1 hy
  have := hr.pl.small i hi
  omega
 ·conv => whnf
  refine h1 fun y hy e => ?_
  have := hr.pl.no h0 y hy
  omega
 ·conv => whnf
  refine ⟨_, ld1 hr.hk rfl, ?_⟩
  conv => whnf
  refine cut_r hr hj fun h' S' L' P' r1 r2 r3 r4 => ?_
  conv => whnf
  exact h3 (gI L j) (by rw [hid]; exact hi) (mem_gI.2 ⟨j, hj, rfl⟩) h' S' L' P' r1 r3 r4

theorem Row.len {h : Heap} {k p : Nat} {S : List Nat} {L : List Id} {P : Nat → Nat} (hr : Row h k p S L P) : ∃ rv, rV .load1 [.ptr p 0] h = some rv ∧ pV .lenS [rv] = some (.int .i64 ((L.length : Nat) : Int)) ∧ ∀ i, i < L.length → ∃ r, pV (.iaddrS 2) [rv, .int .i64 ((i : Nat) : Int)] = some (.ptr r (i * 2)) ∧ rV .load1 [.ptr r (i * 2)] h = some (.int .i64 ((gI L i).1 : Nat)) ∧ rV .load1 [.ptr r (i * 2 + 1)] h = some (.int .i64 (gI L i).2) := by
 rcases hr with ⟨hL, _, hg⟩ | ⟨r, cap, rest, _, _, _, hh⟩
 ·subst hL
  exact ⟨.nils, ld1 hg rfl, rfl, fun i hi => by simp at hi⟩
 ·exact ⟨_, hh.row, rfl, fun i hi => ⟨r, idx_slS3 hi, hh.id hi, hh.key hi⟩⟩

theorem first_o {h : Heap} {k p : Nat} {S : List Nat} {L : List Id} {P : Nat → Nat} (hr : RAt h k p S L P) {Q : AV → Heap → Prop} (h1 : L = [] → Q (.tup [.int .i64 0, .int .i64 0, .bool false]) h)
  (h2 : 0 < L.length → Q (.tup [.int .i64 ((gI L 0).1 : Nat), .int .i64 (gI L 0).2, .bool true]) h) : VD fs ms f_rank_Rank_First [.ptr k 0] h Q := by
 refine vd_start (af := C_rank_Rank_First) true rfl (yB rfl) ?_
 conv => whnf
 obtain ⟨rv, l1, l2, l3⟩ := hr.row.len
 refine none_o hr ?_
 conv => whnf
 refine ⟨_, ld1 hr.hk rfl, ?_⟩
 conv => whnf
 refine ⟨_, l1, ?_⟩
 conv => whnf
 refine op_some l2 ?_
 conv => whnf
 refine br (fun hc => ?_) (fun hc => ?_) <;> (try rw [hc]) <;> (conv => whnf)
 ·refine h1 (List.eq_nil_of_length_eq_zero ?_)
  simp at hc
  simp [hc]
 ·have hl : 0 < L.length := by
   refine Nat.pos_of_ne_zero fun h0 => ?_
   simp [List.eq_nil_of_length_eq_zero h0] at hc
  obtain ⟨r, l4, l5, l6⟩ := l3 0 hl
  refine ⟨_, ld1 hr.hk rfl, ?_⟩
  conv => whnf
  refine ⟨_, l1, ?_⟩
  conv => whnf
  refine ⟨_, l4, ?_⟩
  conv => whnf
  refine ⟨_, l5, ?_⟩
  conv => whnf
  refine ⟨_, ld1 hr.hk rfl, ?_⟩
  conv => whnf
  refine ⟨_, l1, ?_⟩
  conv => whnf
  refine ⟨_, l4, ?_⟩
  conv => whnf
  refine ⟨_, l6, ?_⟩
  conv => whnf
  exact h2 hl

theorem isNaN_c (x : Int) : PC fs ms f_cmp_isNaN_int [.int .i64 x] (.bool false) := by
 refine pc_of rfl rfl ?_
 refine vd_start (af := C_cmp_isNaN_int) false rfl (yB rfl) ?_
 generalize hQ : (fun (u : AV) (_ : Heap) => u = .bool false) = Q
 conv => whnf
 subst hQ
 simp
def cmp3 (x y : Int) : Int := if x < y then -1 else if y < x then 1 else 0
theorem Compare_c (x y : Int) : PC fs ms f_cmp_Compare_int [.int .i64 x, .int .i64 y] (.int .i64 (cmp3 x y)) := by
 refine pc_of rfl rfl ?_
 refine vd_start (af := C_cmp_Compare_int) false rfl (yB rfl) ?_
 generalize hQ : (fun (u : AV) (_ : Heap) => u = .int .i64 (cmp3 x y)) = Q
 conv => whnf
 refine vd_pure (isNaN_c x) ?_
 conv => whnf
 refine vd_pure (isNaN_c y) ?_
 conv => whnf
 refine br (fun hc => ?_) (fun hc => ?_) <;> (try rw [hc]) <;> (conv => whnf)
 ·have h1 : x < y := of_decide_eq_true hc
  subst hQ
  rw [cmp3, if_pos h1]
 ·have h1 : ¬ x < y := of_decide_eq_false hc
  refine br (fun hc => ?_) (fun hc => ?_) <;> (try rw [hc]) <;> (conv => whnf)
  ·have h2 : y < x := of_decide_eq_true hc
   subst hQ
   rw [cmp3, if_neg h1, if_pos h2]
  ·have h2 : ¬ y < x := of_decide_eq_false hc
   subst hQ
   rw [cmp3, if_neg h1, if_neg h2]
def or2 (a b : Int) : Int := if a ≠ 0 then a else b
theorem Or_c (a b : Int) (k : Nat) : PC fs ms f_cmp_Or_int [.fz k [.int .i64 a, .int .i64 b]] (.int .i64 (or2 a b)) := by
 refine pc_of rfl rfl ?_
 refine vd_start (af := C_cmp_Or_int) false rfl (yB rfl) ?_
 generalize hQ : (fun (u : AV) (_ : Heap) => u = .int .i64 (or2 a b)) = Q
 conv => whnf
 refine vc_loop (z := false) ?_
 conv => whnf
 refine ⟨_, (idx_val (j := 0) (x := .int .i64 a) rfl rfl), ?_⟩
 conv => whnf
 refine br (fun hc => ?_) (fun hc => ?_) <;> (try rw [hc]) <;> (conv => whnf)
 ·have h1 : a ≠ 0 := by simpa using hc
  subst hQ
  rw [or2, if_pos h1]
 ·have h1 : ¬ a ≠ 0 := by simpa using hc
  refine vc_loop (z := false) ?_
  conv => whnf
  refine ⟨_, (idx_val (j := 1) (x := .int .i64 b) rfl rfl), ?_⟩
  conv => whnf
  refine br (fun hc => ?_) (fun hc => ?_) <;> (try rw [hc]) <;> (conv => whnf)
  ·have h2 : b ≠ 0 := by simpa using hc
   subst hQ
   rw [or2, if_neg h1]
  ·have h2 : ¬ b ≠ 0 := by simpa using hc
   refine vc_loop (z := false) ?_
   conv => whnf
   subst hQ
   rw [or2, if_neg h1]
   have : b = 0 := by omega
   rw [this]
theorem idxS_at {s : List UInt8} {n : Nat} (h : n < s.length) : pV .idxS [.str s, .int .u8 ((n : Nat) : Int)] = some (.int .u8 ((s[n].toNat : Nat) : Int)) := by
 show (s[n]?).map (fun b => AV.int .u8 ((b.toNat : Nat) : Int)) = _
 rw [List.getElem?_eq_getElem h]
 rfl
theorem Len64_c {n : Nat} (h : n < 65) : ∃ m, PC fs ms f_math_bits_Len64 [.int .u64 ((n : Nat) : Int)] (.int .i64 m) := by
 have key : VD fs ms f_math_bits_Len64 [.int .u64 ((n : Nat) : Int)] ⟨0, .nil⟩ (fun u _ => ∃ m, u = .int .i64 m) := by
  have hw : IntKind.u8.wrap ((n : Nat) : Int) = ((n : Nat) : Int) := by
   show ((n : Nat) : Int) % 256 = _
   omega
  obtain ⟨N, hN⟩ : ∃ N : Int, N = ((n : Nat) : Int) := ⟨_, rfl⟩
  rw [← hN]
  refine vd_start (af := C_math_bits_Len64) false rfl (yB rfl) ?_
  generalize hQ : (fun (u : AV) (_ : Heap) => ∃ m, u = .int .i64 m) = Q
  conv => whnf
  refine brf (decide_eq_false (by omega)) (fun hc => ?_)
  (try rw [hc])
  conv => whnf
  refine brf (decide_eq_false (by omega)) (fun hc => ?_)
  (try rw [hc])
  conv => whnf
  refine brf (decide_eq_false (by omega)) (fun hc => ?_)
  (try rw [hc])
  conv => whnf
  rw [hN, hw]
  refine ⟨_, idxS_at (n := n) (Nat.lt_of_lt_of_le h (by decide)), ?_⟩
  conv => whnf
  subst hQ
  exact ⟨_, rfl⟩
 obtain ⟨v, g, hb, m, rfl⟩ := key
 exact ⟨m, rfl, rfl, _, g, hb, .clean rfl⟩
theorem Len_c {n : Nat} (h : n < 65) : ∃ m, PC fs ms f_math_bits_Len [.int .u64 ((n : Nat) : Int)] (.int .i64 m) := by
 obtain ⟨m, hm⟩ := Len64_c h
 refine ⟨m, pc_of rfl rfl ?_⟩
 refine vd_start (af := C_math_bits_Len) false rfl (yB rfl) ?_
 conv => whnf
 refine vd_pure hm ?_
 conv => whnf

def cmpI (x y : Id) : Int := or2 (cmp3 x.2 y.2) (cmp3 x.1 y.1)
theorem cmpI_lt (x y : Id) : cmpI x y < 0 ↔ ah x y = true := by
 rw [ah_iff]
 unfold cmpI or2 cmp3
 split <;> split <;> (try split) <;> (try split) <;> simp at * <;> omega
theorem cmpI_c (x y : Id) : PC fs ms f_rank_Rank_Ids_1 [ob x, ob y] (.int .i64 (cmpI x y)) := by
 refine pc_of rfl rfl ?_
 refine vd_start (af := C_rank_Rank_Ids_1) false rfl (yB rfl) ?_
 generalize hQ : (fun (u : AV) (_ : Heap) => u = .int .i64 (cmpI x y)) = Q
 obtain ⟨x1, x2⟩ := x
 obtain ⟨y1, y2⟩ := y
 conv => whnf
 refine vd_pure (Compare_c x2 y2) ?_
 conv => whnf
 refine vd_pure (Compare_c x1 y1) ?_
 conv => whnf
 refine vd_view (Or_c _ _ 0) rfl (.cons (.row (s := 1) trivial rfl rfl rfl rfl (Nat.le_refl _) (by omega) (fun h => by omega) (fun h => by omega) rfl) .nil) ?_
 conv => whnf
 refine ⟨winOk_of (by (conv => whnf); repeat' (first | exact trivial | (exact ⟨rfl, rfl, .inr ⟨_, _, rfl⟩⟩) | (refine ⟨rfl, rfl, .inl ⟨rfl, fun o ho => ?_⟩⟩; cases ho; first | rfl) | (exact ⟨rfl, .inr ⟨_, _, rfl⟩⟩) | (refine ⟨rfl, .inl ⟨rfl, fun i o hi ho => ?_⟩⟩; cases hi; cases ho; first | rfl) | (refine And.intro (fun hon => (Bool.false_ne_true hon).elim) ?_ <;> conv => whnf) | (refine And.intro (fun _ => ?_) ?_ <;> conv => whnf) | (refine And.intro ?_ ?_ <;> conv => whnf))), ?_⟩
 subst hQ
 rfl
structure SAt (h : Heap) (b es : Nat) (L : List Id) (rest : List AV) : Prop where
 hb : h.get b = some (.cells (oc L ++ rest) true es)
 lb : b < h.next
theorem SAt.one {h : Heap} {b es : Nat} {L : List Id} {rest : List AV} (hh : SAt h b es L rest) {i : Nat} (hi : i < L.length) : rV (.loadN 2) [.ptr b (i * 2)] h = some (ob (gI L i)) := by
 have hlen := oc_len L
 rw [ldN hh.hb (by rw [List.length_append]; omega), oc_take hi, gI_eq hi]
 rfl
theorem SAt.put {h : Heap} {b es : Nat} {L : List Id} {rest : List AV} (hh : SAt h b es L rest) {i : Nat} (hi : i < L.length) (x : Id) : eV (.store 2) [.ptr b (i * 2), ob x] h = some (.undef, h.set b (.cells (oc (L.set i x) ++ rest) true es)) := by
 have hlen := oc_len L
 rw [← oc_set L i hi x rest]
 exact sto_o (n := 2) (v := ob x) hh.hb rfl (by rw [List.length_append]; omega) rfl
theorem SAt.next {h : Heap} {b es : Nat} {L L' : List Id} {rest : List AV} (hh : SAt h b es L rest) : SAt (h.set b (.cells (oc L' ++ rest) true es)) b es L' rest := ⟨get_set_same, hh.lb⟩

def Dst (L : List Id) : Prop := ∀ i j, i < L.length → j < L.length → (gI L i).1 = (gI L j).1 → i = j
structure RS (a e : Nat) (L M : List Id) : Prop where
 len : L.length = M.length
 out : ∀ k, k < a ∨ e ≤ k → gI M k = gI L k
 mem : ∀ y, (∃ k, a ≤ k ∧ k < e ∧ gI L k = y) ↔ ∃ k, a ≤ k ∧ k < e ∧ gI M k = y
 dst : Dst L → Dst M
theorem RS.refl (a e : Nat) (L : List Id) : RS a e L L := ⟨rfl, fun _ _ => rfl, fun _ => Iff.rfl, id⟩
theorem RS.trans {a e : Nat} {L M K : List Id} (h : RS a e L M) (g : RS a e M K) : RS a e L K := ⟨h.len.trans g.len, fun k hk => (g.out k hk).trans (h.out k hk), fun y => (h.mem y).trans (g.mem y), fun d => g.dst (h.dst d)⟩
theorem RS.wide {a e a' e' : Nat} {L M : List Id} (h : RS a e L M) (ha : a' ≤ a) (he : e ≤ e') : RS a' e' L M := by
 refine ⟨h.len, fun k hk => h.out k (by omega), fun y => ⟨?_, ?_⟩, h.dst⟩
 ·rintro ⟨k, k1, k2, hy⟩
  by_cases hk : a ≤ k ∧ k < e
  ·obtain ⟨j, j1, j2, j3⟩ := (h.mem y).1 ⟨k, hk.1, hk.2, hy⟩
   exact ⟨j, by omega, by omega, j3⟩
  ·exact ⟨k, k1, k2, by rw [h.out k (by omega)]; exact hy⟩
 ·rintro ⟨k, k1, k2, hy⟩
  by_cases hk : a ≤ k ∧ k < e
  ·obtain ⟨j, j1, j2, j3⟩ := (h.mem y).2 ⟨k, hk.1, hk.2, hy⟩
   exact ⟨j, by omega, by omega, j3⟩
  ·exact ⟨k, k1, k2, by rw [← h.out k (by omega)]; exact hy⟩
theorem RS.swap {a e : Nat} {L : List Id} {i j : Nat} (hi : a ≤ i) (hi' : i < e) (hj : a ≤ j) (hj' : j < e) (he : e ≤ L.length) : RS a e L (swp L i j) := by
 have hg := gI_swp (V := L) (show i < L.length by omega) (show j < L.length by omega)
 refine ⟨(swp_len L i j).symm, fun k hk => ?_, fun y => ⟨?_, ?_⟩, fun d => ?_⟩
 ·rw [hg, if_neg (by omega), if_neg (by omega)]
 ·rintro ⟨k, k1, k2, hy⟩
  by_cases h1 : k = i
  ·subst h1
   exact ⟨j, hj, hj', by rw [hg, if_pos rfl, hy]⟩
  ·by_cases h2 : k = j
   ·subst h2
    exact ⟨i, hi, hi', by rw [hg, if_neg (fun e => h1 e.symm), if_pos rfl, hy]⟩
   ·exact ⟨k, k1, k2, by rw [hg, if_neg h2, if_neg h1, hy]⟩
 ·rintro ⟨k, k1, k2, hy⟩
  rw [hg] at hy
  split at hy
  ·exact ⟨i, hi, hi', hy⟩
  ·split at hy
   ·exact ⟨j, hj, hj', hy⟩
   ·exact ⟨k, k1, k2, hy⟩
 ·have hs : ∀ k, gI (swp L i j) k = gI L (if k = j then i else if k = i then j else k) := by
   intro k
   rw [hg]
   split
   ·rfl
   ·split <;> rfl
  have hl := swp_len L i j
  intro u v hu hv he
  rw [hs, hs] at he
  have hk : ∀ k, k < (swp L i j).length → (if k = j then i else if k = i then j else k) < L.length := by
   intro k hk
   split
   ·omega
   ·split <;> omega
  have key := d _ _ (hk u hu) (hk v hv) he
  revert key
  repeat' split
  all_goals (intro key; omega)
def Srt (L : List Id) (a e : Nat) : Prop := ∀ i j, a ≤ i → i < j → j < e → ah (gI L j) (gI L i) = false
def SrtB (L : List Id) (a e j : Nat) : Prop := ∀ u v, a ≤ u → u < v → v < e → v ≠ j → ah (gI L v) (gI L u) = false
theorem SrtB.step {L : List Id} {a e j : Nat} (h : SrtB L a e j) (ha : a < j) (hj : j < e) (he : e ≤ L.length) (hs : ah (gI L j) (gI L (j - 1)) = true) : SrtB (swp L j (j - 1)) a e (j - 1) := by
 have hg := gI_swp (V := L) (show j < L.length by omega) (show j - 1 < L.length by omega)
 intro u v h1 h2 h3 h4
 rw [hg v, if_neg h4, hg u]
 by_cases hv : v = j
 ·rw [if_pos hv]
  by_cases hu : u = j - 1
  ·rw [if_pos hu]; exact ah_as hs
  ·rw [if_neg hu, if_neg (by omega)]
   exact h u (j - 1) h1 (by omega) (by omega) (by omega)
 ·rw [if_neg hv]
  by_cases hu : u = j - 1
  ·rw [if_pos hu]; exact h j v (by omega) (by omega) h3 hv
  ·rw [if_neg hu]
   by_cases hu2 : u = j
   ·rw [if_pos hu2]; exact h (j - 1) v (by omega) (by omega) h3 hv
   ·rw [if_neg hu2]; exact h u v h1 h2 h3 hv
theorem SrtB.done {L : List Id} {a e j : Nat} (h : SrtB L a e j) (hs : j ≤ a ∨ ah (gI L j) (gI L (j - 1)) = false) : Srt L a e := by
 intro u v h1 h2 h3
 by_cases hv : v = j
 ·subst hv
  rcases hs with hs | hs
  ·omega
  ·by_cases hu : u = v - 1
   ·subst hu; exact hs
   ·exact ah_tt hs (h u (v - 1) h1 (by omega) (by omega) (by omega))
 ·exact h u v h1 h2 h3 hv

abbrev cmpF : AV := .func (.func f_rank_Rank_Ids_1) [] []

theorem dec_v {j : Nat} (h : j < 2 ^ 62) (h0 : 0 < j) : IntKind.i64.wrap (((j : Nat) : Int) - 1) = ((j - 1 : Nat) : Int) := by
 rw [show ((j : Nat) : Int) - 1 = ((j - 1 : Nat) : Int) by omega, wrap_nat (by omega)]

def insE (b N cap a e i j : Nat) (op : Bool) : List (Nat × AV) := [(0, .sl b 0 N cap op), (1, .int .i64 ((a : Nat) : Int)), (2, .int .i64 ((e : Nat) : Int)), (3, cmpF), (8, .int .i64 ((i : Nat) : Int)), (9, .int .i64 ((j : Nat) : Int))]
theorem ins_in {b es N cap a e i : Nat} {op : Bool} {rest : List AV} {B : Nat} {Q : AX → Env → Heap → Prop} (hN : N < 2 ^ 60) (he : e ≤ N) (hi : i < e) :
  ∀ (j : Nat) (h : Heap) (L : List Id), SAt h b es L rest → L.length = N → a ≤ j → j ≤ i → SrtB L a (i + 1) j →
  (∀ (h' : Heap) (L' : List Id) (e' : Env), Tr.get e' 0 = some (.sl b 0 N cap op) → Tr.get e' 1 = some (.int .i64 ((a : Nat) : Int)) → Tr.get e' 2 = some (.int .i64 ((e : Nat) : Int)) → Tr.get e' 3 = some cmpF → Tr.get e' 8 = some (.int .i64 ((i : Nat) : Int)) →
   SAt h' b es L' rest → RS a (i + 1) L L' → Srt L' a (i + 1) → Fr h h' [b] → Q (.exit 2) e' h') →
  VC fs ms B false (.loop L_slices_insertionSortCmpFunc_rank_one_1) (ek 4 (insE b N cap a e i j op)) h Q := by
 intro j
 induction j using Nat.strongRecOn with
 | ind j ih =>
 intro h L hh hL ha hj hs hQ
 refine vc_loop (z := true) ?_
 unfold insE
 conv => whnf
 refine br (fun hc => ?_) (fun hc => ?_) <;> (try rw [hc]) <;> (conv => whnf)
 ·have h0 : a < j := by have := of_decide_eq_true hc; omega
  refine ⟨_, idx_slS3 (by omega), ?_⟩
  conv => whnf
  refine ⟨_, hh.one (by omega), ?_⟩
  conv => whnf
  rw [dec_v (by omega) (by omega)]
  refine ⟨_, idx_slS3 (by omega), ?_⟩
  conv => whnf
  refine ⟨_, hh.one (by omega), ?_⟩
  conv => whnf
  refine vd_pure (cmpI_c _ _) ?_
  conv => whnf
  refine br (fun hc => ?_) (fun hc => ?_) <;> (try rw [hc]) <;> (conv => whnf)
  ·have hlt : ah (gI L j) (gI L (j - 1)) = true := (cmpI_lt _ _).1 (of_decide_eq_true hc)
   rw [dec_v (by omega) (by omega)]
   refine ⟨_, idx_slS3 (by omega), ?_⟩
   conv => whnf
   refine ⟨_, hh.one (by omega), ?_⟩
   conv => whnf
   refine ⟨_, idx_slS3 (by omega), ?_⟩
   conv => whnf
   refine ⟨_, hh.one (by omega), ?_⟩
   conv => whnf
   refine ⟨_, idx_slS3 (by omega), ?_⟩
   conv => whnf
   refine eff_o (hh.put (by omega) _) fun h1 e1 => ?_
   conv => whnf
   have hh1 : SAt h1 b es (L.set j (gI L (j - 1))) rest := by rw [e1]; exact hh.next
   refine ⟨_, idx_slS3 (by omega), ?_⟩
   conv => whnf
   refine eff_o (hh1.put (by rw [List.length_set]; omega) _) fun h2 e2 => ?_
   conv => whnf
   have hh2 : SAt h2 b es (swp L j (j - 1)) rest := by rw [e2]; exact hh1.next
   have fr : Fr h h2 [b] := by rw [e2, e1]; exact ((Fr.refl h [b]).set (by simp)).set (by simp)
   rw [dec_v (by omega) (by omega)]
   refine vc_slots 4 (insE b N cap a e i (j - 1) op) ⟨rfl, rfl, rfl, rfl, rfl, rfl, trivial⟩ ?_
   refine ih (j - 1) (by omega) h2 _ hh2 (by rw [swp_len]; exact hL) (by omega) (by omega) (hs.step (by omega) (by omega) (by omega) hlt) ?_
   intro h' L' e' g0 g1 g2 g3 g8 k1 k2 k3 k4
   exact hQ h' L' e' g0 g1 g2 g3 g8 k1 ((RS.swap (by omega) (by omega) (by omega) (by omega) (by omega)).trans k2) k3 (fr.trans k4)
  ·have hlt : ah (gI L j) (gI L (j - 1)) = false := by
    rw [← Bool.not_eq_true, ← cmpI_lt]
    exact of_decide_eq_false hc
   exact hQ h L _ rfl rfl rfl rfl rfl hh (RS.refl _ _ _) (hs.done (.inr hlt)) (Fr.refl _ _)
 ·have h0 : j ≤ a := by have := of_decide_eq_false hc; omega
  exact hQ h L _ rfl rfl rfl rfl rfl hh (RS.refl _ _ _) (hs.done (.inl h0)) (Fr.refl _ _)

theorem ins_out {b es N cap a e : Nat} {op : Bool} {rest : List AV} {B : Nat} {Q : AX → Env → Heap → Prop} (hN : N < 2 ^ 60) (he : e ≤ N) :
  ∀ (k i : Nat) (h : Heap) (L : List Id) (env : Env), e - i = k → SAt h b es L rest → L.length = N → a < i → Srt L a i → (Srt L a (i + 1) → True) →
  Tr.get env 0 = some (.sl b 0 N cap op) → Tr.get env 1 = some (.int .i64 ((a : Nat) : Int)) → Tr.get env 2 = some (.int .i64 ((e : Nat) : Int)) → Tr.get env 3 = some cmpF → Tr.get env 8 = some (.int .i64 ((i : Nat) : Int)) →
  (∀ (h' : Heap) (L' : List Id) (e' : Env), SAt h' b es L' rest → RS a e L L' → Srt L' a e → Fr h h' [b] → Q (.exit 0) e' h') →
  VC fs ms B false (.loop L_slices_insertionSortCmpFunc_rank_one_0) env h Q := by
 intro k
 induction k using Nat.strongRecOn with
 | ind k ih =>
 intro i h L env hk hh hL hai hs _ g0 g1 g2 g3 g8 hQ
 refine vc_slots 4 [(0, .sl b 0 N cap op), (1, .int .i64 ((a : Nat) : Int)), (2, .int .i64 ((e : Nat) : Int)), (3, cmpF), (8, .int .i64 ((i : Nat) : Int))] ⟨g0, g1, g2, g3, g8, trivial⟩ ?_
 refine vc_loopV (vc_seq true ?_)
 conv => whnf
 refine br (fun hc => ?_) (fun hc => ?_) <;> (try rw [hc]) <;> (conv => whnf)
 ·have hlt : i < e := by have := of_decide_eq_true hc; omega
  refine vc_seqV (vc_block (vc_seq true ?_))
  conv => whnf
  refine vc_block ?_
  refine vc_slots 4 (insE b N cap a e i i op) ⟨rfl, rfl, rfl, rfl, rfl, rfl, trivial⟩ ?_
  refine ins_in hN he hlt i h L hh hL (by omega) (Nat.le_refl _) (fun u v h1 h2 h3 h4 => hs u v h1 h2 (by omega)) ?_
  intro h' L' e' j0 j1 j2 j3 j8 k1 k2 k3 k4
  show VC fs ms _ _ _ _ _ _
  refine vc_slots 4 [(0, .sl b 0 N cap op), (1, .int .i64 ((a : Nat) : Int)), (2, .int .i64 ((e : Nat) : Int)), (3, cmpF), (8, .int .i64 ((i : Nat) : Int))] ⟨j0, j1, j2, j3, j8, trivial⟩ (vpC_sound (z := true) ?_)
  conv => whnf
  have hl := k2.len
  refine ih (e - (i + 1)) (by omega) (i + 1) h' L' _ rfl k1 (by omega) (by omega) k3 (fun _ => trivial) rfl rfl rfl rfl (inc_slot (by omega)) ?_
  intro h2 L2 e2 m1 m2 m3 m4
  exact hQ h2 L2 e2 m1 ((k2.wide (Nat.le_refl _) (by omega)).trans m2) m3 (k4.trans m4)
 ·have hge : e ≤ i := by have := of_decide_eq_false hc; omega
  exact hQ h L _ hh (RS.refl _ _ _) (fun u v h1 h2 h3 => hs u v h1 h2 (by omega)) (Fr.refl _ _)

theorem ins_o {h : Heap} {b es cap a e : Nat} {op : Bool} {L : List Id} {rest : List AV} (hh : SAt h b es L rest) (hN : L.length < 2 ^ 60) (ha : a ≤ e) (he : e ≤ L.length) {Q : AV → Heap → Prop}
  (hQ : ∀ h' L', SAt h' b es L' rest → RS a e L L' → Srt L' a e → Fr h h' [b] → Q (.tup []) h') :
  VD fs ms f_slices_insertionSortCmpFunc_rank_one [.sl b 0 L.length cap op, .int .i64 ((a : Nat) : Int), .int .i64 ((e : Nat) : Int), cmpF] h Q := by
 refine vd_begin (af := C_slices_insertionSortCmpFunc_rank_one) rfl (yB rfl) ?_
 conv => whnf
 refine vc_seq true ?_
 conv => whnf
 refine vc_block ?_
 refine ins_out hN he _ (a + 1) h L _ rfl hh rfl (by omega) (fun u v h1 h2 h3 => by omega) (fun _ => trivial) rfl rfl rfl rfl (inc_slot (by omega)) ?_
 intro h' L' e' k1 k2 k3 k4
 show Q (.tup []) h'
 exact hQ h' L' k1 k2 k3 k4
end Ir
end Go.Proofs.YtnlcabhfkpafmaaGreat
namespace Go.Proofs.YtnlcabhfkpafmaaGreat
open Go Ads
namespace Ads
theorem src_pre {h : Heap} {b s n cap : Nat} {op wr : Bool} {es : Nat} {cs rest : List AV} (hg : h.get b = some (.cells (cs ++ rest) wr es)) (hl : cs.length = n * s) : srcV s h (.sl b 0 n cap op) = some (n, cs) := by
 have b1 : Nat.ble (0 + n * s) (cs ++ rest).length = true := Nat.ble_eq_true_of_le (by rw [List.length_append]; omega)
 show (h.loadN b 0 (n * s)).map _ = _
 have : h.loadN b 0 (n * s) = some cs := by
  simp only [Heap.loadN, Heap.row, hg, b1, cond_true, List.drop_zero]
  rw [← hl, List.take_left']
  rfl
 rw [this]
 rfl
theorem app_shut0 {h : Heap} {b s bytes : Nat} {src : AV} {cs : List AV} (hsrc : srcV s h src = some (0, cs)) (hf : flatL cs = true) : eV (.append s bytes) [.sl b 0 0 0 false, src] h = some (.sl b 0 0 0 false, h) := by
 simp only [eV, l2, hsrc]
 show cond (flatL cs) _ _ = _
 rw [hf, cond_true]
 rfl
theorem app_shutN {h : Heap} {b s bytes n es : Nat} {wr : Bool} {vs : List AV} {src : AV} {cs : List AV} (hg : h.get b = some (.cells vs wr es)) (hsrc : srcV s h src = some (n + 1, cs)) (hf : flatL cs = true) (hb : bytes ≤ 1048576) (hn : n ≤ 1048576) :
  eV (.append s bytes) [.sl b 0 0 0 false, src] h = some (.sl h.next 0 (n + 1) (n + 1) true, h.new (.cells cs true s)) := by
 have hm : (n + 1) * bytes ≤ 1048577 * 1048576 := Nat.mul_le_mul (by omega) hb
 have b2 : Nat.ble ((0 + (n + 1)) * bytes) 140737488355328 = true := Nat.ble_eq_true_of_le (by rw [Nat.zero_add]; omega)
 have b3 : Nat.ble (0 + (n + 1)) 9223372036854775807 = true := Nat.ble_eq_true_of_le (by omega)
 have hld : h.loadN b 0 (0 * s) = some [] := by
  have b1 : Nat.ble (0 + 0 * s) vs.length = true := Nat.ble_eq_true_of_le (by omega)
  simp only [Heap.loadN, Heap.row, hg]
  rw [b1, cond_true, Nat.zero_mul]
  rfl
 have b0 : Nat.ble (0 + (n + 1)) 0 = false := by
  cases hb : Nat.ble (0 + (n + 1)) 0 with
  | false => rfl
  | true => have := Nat.le_of_ble_eq_true hb; omega
 simp only [eV, l2, hsrc]
 show cond (flatL cs) _ _ = _
 rw [hf, cond_true]
 show cond (Nat.beq (n + 1) 0 && Nat.ble 0 0) _ _ = _
 rw [show Nat.beq (n + 1) 0 = false from rfl, Bool.false_and, cond_false, b0, cond_false, b2, b3, Bool.and_self, cond_true, hg, hld]
 show some (AV.sl h.next 0 (0 + (n + 1)) (0 + (n + 1)) true, h.new (.cells ([] ++ cs) true s)) = _
 rw [Nat.zero_add, List.nil_append]
end Ads
namespace Ir
set_option smartUnfolding true in
theorem flat_oc : ∀ L : List Id, flatL (oc L) = true
 | [] => rfl
 | x :: L => by
  show flatL (.int .i64 (x.1 : Nat) :: .int .i64 x.2 :: oc L) = true
  simp only [flatL, flat_oc L]
  rfl

theorem pdq_few {h : Heap} {b es cap : Nat} {op : Bool} {L : List Id} {rest : List AV} {m : Int} (hh : SAt h b es L rest) (h12 : L.length ≤ 12) {Q : AV → Heap → Prop}
  (hQ : ∀ h' L', SAt h' b es L' rest → RS 0 L.length L L' → Srt L' 0 L.length → Fr h h' [b] → Q (.tup []) h') :
  VD fs ms f_slices_pdqsortCmpFunc_rank_one [.sl b 0 L.length cap op, .int .i64 ((0 : Nat) : Int), .int .i64 ((L.length : Nat) : Int), .int .i64 m, cmpF] h Q := by
 refine vd_start (af := C_slices_pdqsortCmpFunc_rank_one) true rfl (yB rfl) ?_
 conv => whnf
 refine vc_loop (z := true) ?_
 conv => whnf
 have hd : decide (IntKind.i64.wrap (((L.length : Nat) : Int) - ((0 : Nat) : Int)) ≤ 12) = true := by
  rw [show ((L.length : Nat) : Int) - ((0 : Nat) : Int) = ((L.length : Nat) : Int) by omega, wrap_nat (by omega)]
  exact decide_eq_true (by omega)
 refine brt (hd) (fun hc => ?_)
 (try rw [hc])
 conv => whnf
 refine ins_o hh (by omega) (Nat.zero_le _) (Nat.le_refl _) fun h' L' k1 k2 k3 k4 => ?_
 conv => whnf
 exact hQ h' L' k1 k2 k3 k4
theorem sort_few {h : Heap} {b es cap : Nat} {op : Bool} {L : List Id} {rest : List AV} (hh : SAt h b es L rest) (h12 : L.length ≤ 12) {Q : AV → Heap → Prop}
  (hQ : ∀ h' L', SAt h' b es L' rest → RS 0 L.length L L' → Srt L' 0 L.length → Fr h h' [b] → Q (.tup []) h') :
  VD fs ms f_slices_SortFunc_rank_one_rank_one [.sl b 0 L.length cap op, cmpF] h Q := by
 refine vd_start (af := C_slices_SortFunc_rank_one_rank_one) true rfl (yB rfl) ?_
 conv => whnf
 obtain ⟨m, hm⟩ := Len_c (n := L.length) (by omega)
 have hu : IntKind.u64.wrap ((L.length : Nat) : Int) = ((L.length : Nat) : Int) := by
  have hlow : ∀ z : Int, IntKind.u64.wrap z = z % 18446744073709551616 := fun z => by simp [IntKind.wrap, IntKind.signed, IntKind.bits]
  rw [hlow]
  omega
 rw [hu]
 refine vd_pure hm ?_
 conv => whnf
 refine pdq_few hh h12 fun h' L' k1 k2 k3 k4 => ?_
 conv => whnf
 exact hQ h' L' k1 k2 k3 k4

theorem clone_o {h : Heap} {k p : Nat} {S : List Nat} {L : List Id} {P : Nat → Nat} (hr : Row h k p S L P) (h64 : L.length ≤ 64) : ∃ rv, rV .load1 [.ptr p 0] h = some rv ∧ ∀ {Q : AV → Heap → Prop},
  (L = [] → Q .nils h) → (∀ h' c es op, SAt h' c es L [] → h.next ≤ c → Fr h h' [] → Q (.sl c 0 L.length L.length op) h') → VD fs ms f_slices_Clone_rank_one_rank_one [rv] h Q := by
 rcases hr with ⟨hL, _, hg⟩ | ⟨r, cap, rest, _, _, _, hh⟩
 ·refine ⟨.nils, ld1 hg rfl, fun {Q} q0 q1 => ?_⟩
  refine vd_start (af := C_slices_Clone_rank_one_rank_one) true rfl (yB rfl) ?_
  conv => whnf
  exact q0 hL
 ·refine ⟨_, hh.row, fun {Q} q0 q1 => ?_⟩
  have hol := oc_len L
  refine vd_start (af := C_slices_Clone_rank_one_rank_one) true rfl (yB rfl) ?_
  conv => whnf
  have hsrc : ∀ g : Heap, g = h.new (.cells [] true 0) → srcV 2 g (.sl r 0 L.length cap true) = some (L.length, oc L) := by
   rintro g rfl
   exact src_pre (rest := rest) (by rw [get_new_ne hh.lr]; exact hh.hr) hol
  by_cases hl : L.length = 0
  ·have hL : L = [] := List.eq_nil_of_length_eq_zero hl
   subst hL
   refine eff_o (app_shut0 (hsrc _ rfl) (flat_oc _)) fun h1 e1 => ?_
   conv => whnf
   refine q1 h1 h.next 0 false ⟨?_, ?_⟩ (Nat.le_refl _) ?_
   ·rw [e1, get_new_same]; rfl
   ·rw [e1]; exact Nat.lt_succ_self _
   ·rw [e1]; exact (Fr.refl h []).new
  ·obtain ⟨n, hn⟩ : ∃ n, L.length = n + 1 := ⟨L.length - 1, by omega⟩
   rw [hn] at hsrc ⊢
   refine eff_o (app_shutN get_new_same (hsrc _ rfl) (flat_oc _) (by omega) (by omega)) fun h1 e1 => ?_
   conv => whnf
   rw [hn] at q1
   refine q1 h1 (h.next + 1) 2 true ⟨?_, ?_⟩ (by omega) ?_
   ·rw [e1, List.append_nil]; exact get_new_same
   ·rw [e1]; exact Nat.lt_succ_self _
   ·rw [e1]; exact ((Fr.refl h []).new).new

def IRow (lo : Nat) (h : Heap) (v : AV) (l : List Int) : Prop :=
 (l = [] ∧ v = .nils) ∨ ∃ b, lo ≤ b ∧ b < h.next ∧ v = .sl b 0 l.length l.length true ∧ h.get b = some (.cells (ints l) true 1)
def offB (v : AV) (c : Nat) : Prop := ∀ o n k op, v ≠ .sl c o n k op
theorem IRow.keep {lo : Nat} {h h' : Heap} {v : AV} {l : List Int} (hr : IRow lo h v l) (fr : Fr h h' []) : IRow lo h' v l := by
 rcases hr with hr | ⟨b, h1, h2, h3, h4⟩
 ·exact .inl hr
 ·exact .inr ⟨b, h1, Nat.lt_of_lt_of_le h2 fr.next, h3, by rw [fr.keep b h2 (by simp)]; exact h4⟩
theorem IRow.app {lo : Nat} {h : Heap} {v : AV} {l : List Int} (hr : IRow lo h v l) (hlo : lo ≤ h.next) (hl : l.length ≤ 1048576) (x : Int) : ∃ v' g', eV (.append 1 8) [v, .sl h.next 0 1 1 false] (h.new (.cells [.int .i64 x] true 0)) = some (v', g') ∧
  IRow lo g' v' (l ++ [x]) ∧ h.next ≤ g'.next ∧ (∀ c, c < h.next → offB v c → g'.get c = h.get c) ∧ ∀ c, c < h.next → offB v' c := by
 have hsrc : srcV 1 (h.new (.cells [.int .i64 x] true 0)) (.sl h.next 0 1 1 false) = some (1, [.int .i64 x]) := src_new get_new_same rfl
 have off : ∀ (n k : Nat) c, c < h.next → offB (.sl (h.next + 1) 0 n k true) c := by
  intro n k c hc o n' k' op e
  cases e
  omega
 rcases hr with ⟨h1, h2⟩ | ⟨b, h1, h2, h3, h4⟩
 ·subst h1 h2
  refine ⟨_, _, app_nilsS (by omega) hsrc rfl, .inr ⟨h.next + 1, by omega, Nat.lt_succ_self _, rfl, ?_⟩, by show h.next ≤ h.next + 1 + 1; omega, fun c hc _ => ?_, off _ _⟩
  ·exact get_new_same (h := h.new (.cells [.int .i64 x] true 0))
  ·exact (get_new_ne (h := h.new (.cells [.int .i64 x] true 0)) (show c < h.next + 1 by omega)).trans (get_new_ne hc)
 ·subst h3
  have hg : (h.new (.cells [.int .i64 x] true 0)).get b = some (.cells (ints l) true 1) := by rw [get_new_ne h2]; exact h4
  refine ⟨_, _, app_full hg (by rw [len_ints, Nat.mul_one]) hsrc rfl (by omega) hl, .inr ⟨h.next + 1, by omega, Nat.lt_succ_self _, by rw [List.length_append]; rfl, ?_⟩, by show h.next ≤ h.next + 1 + 1; omega, fun c hc ho => ?_, off _ _⟩
  ·have := get_new_same (h := (h.new (.cells [.int .i64 x] true 0)).del b) (x := .cells (ints l ++ [.int .i64 x]) true 1)
   rw [show ((h.new (.cells [.int .i64 x] true 0)).del b).next = h.next + 1 from rfl] at this
   rw [this, ints, ints, List.map_append]
   rfl
  ·have hne : c ≠ b := by rintro rfl; exact ho _ _ _ _ rfl
   exact (get_new_ne (h := (h.new (.cells [.int .i64 x] true 0)).del b) (show c < h.next + 1 by omega)).trans ((get_del_ne hne).trans (get_new_ne hc))

def idl (L : List Id) : List Int := L.map fun y => (y.1 : Int)
theorem idl_len (L : List Id) : (idl L).length = L.length := by simp [idl]
theorem idl_take {L : List Id} {i : Nat} (h : i < L.length) : idl (L.take (i + 1)) = idl (L.take i) ++ [((gI L i).1 : Int)] := by
 rw [List.take_succ_eq_append_getElem h, gI_eq h, idl, List.map_append]
 rfl
def idsE (v : AV) (c N i : Nat) (op : Bool) : List (Nat × AV) := [(2, v), (18, .sl c 0 N N op), (19, .int .i64 ((N : Nat) : Int)), (20, .int .i64 ((i : Nat) : Int))]
theorem ids_loop {c es N : Nat} {op : Bool} {h0 : Heap} {B : Nat} {Q : AX → Env → Heap → Prop} {L : List Id} (hN : N ≤ 64) (hL : L.length = N) (hc0 : h0.next ≤ c) :
  ∀ (k i : Nat) (h : Heap) (v : AV) (env : Env), N - i = k → SAt h c es L [] → i ≤ N → IRow h0.next h v (idl (L.take i)) → offB v c → Fr h0 h [] →
  AllAt env (idsE v c N i op) →
  (∀ (h' : Heap) (v' : AV) (e' : Env), Tr.get e' 2 = some v' → IRow h0.next h' v' (idl L) → Fr h0 h' [] → Q (.exit 0) e' h') →
  VC fs ms B false (.loop L_rank_Rank_Ids_0) env h Q := by
 intro k
 induction k using Nat.strongRecOn with
 | ind k ih =>
 intro i h v env hk hh hi hr ho fr0 henv hQ
 refine vc_slots 5 (idsE v c N i op) henv ?_
 refine vc_loop (z := true) ?_
 unfold idsE
 conv => whnf
 refine br (fun hc => ?_) (fun hc => ?_) <;> (try rw [hc]) <;> (conv => whnf)
 ·have hlt : i < L.length := by have := of_decide_eq_true hc; omega
  refine ⟨_, idx_slS3 (by omega), ?_⟩
  conv => whnf
  refine ⟨_, hh.one hlt, ?_⟩
  conv => whnf
  refine eff_o (sto_o get_new_same rfl (Nat.le_refl _) rfl) fun h1 e1 => ?_
  conv => whnf
  have fr1 : Fr h h1 [] := by rw [e1]; exact ((Fr.refl h []).new (x := _)).setn (Nat.le_refl _)
  have gb : h1.get h.next = some (.cells (ob (gI L i)).cells true 0) := by rw [e1, get_set_same]; rfl
  clear e1
  refine ⟨_, ld1 gb rfl, ?_⟩
  conv => whnf
  have hr1 := hr.keep fr1
  have hlo : h0.next ≤ h1.next := Nat.le_trans fr0.next fr1.next
  obtain ⟨v', g', a1, a2, a3, a4, a5⟩ := hr1.app hlo (by rw [idl_len, List.length_take]; omega) ((gI L i).1 : Int)
  refine eff_o a1 fun h2 e2 => ?_
  subst e2
  conv => whnf
  have hcl : c < h.next := hh.lb
  have hc1 : c < h1.next := Nat.lt_of_lt_of_le hcl fr1.next
  refine ih (N - (i + 1)) (by omega) (i + 1) h2 v' _ rfl ⟨?_, by omega⟩ (by omega) (by rw [idl_take hlt]; exact a2) (a5 c hc1) ⟨by omega, fun b hb _ => ?_⟩ ⟨rfl, rfl, rfl, inc_slot (by omega), trivial⟩ hQ
  ·rw [a4 c hc1 ho, fr1.keep c hcl (by simp)]; exact hh.hb
  ·have hob : offB v b := by
    rcases hr with ⟨_, rfl⟩ | ⟨b', h1', _, rfl, _⟩
    ·intro o n k op e; cases e
    ·intro o n k op e; cases e; omega
   rw [a4 b (Nat.lt_of_lt_of_le hb hlo) hob, fr1.keep b (Nat.lt_of_lt_of_le hb fr0.next) (by simp)]
   exact fr0.keep b hb (by simp)
 ·have hge : i = N := by have := of_decide_eq_false hc; omega
  subst hge
  refine hQ h v _ rfl ?_ fr0
  rw [← hL, List.take_length] at hr
  exact hr

theorem sort_nil : PC fs ms f_slices_SortFunc_rank_one_rank_one [.nils, cmpF] (.tup []) := by
 refine pc_of rfl rfl ?_
 refine vd_start (af := C_slices_SortFunc_rank_one_rank_one) false rfl (yB rfl) ?_
 generalize hQ : (fun (u : AV) (_ : Heap) => u = .tup []) = Q
 conv => whnf
 obtain ⟨m, hm⟩ := Len_c (n := 0) (by omega)
 refine vd_pure hm ?_
 conv => whnf
 refine vd_start (af := C_slices_pdqsortCmpFunc_rank_one) false rfl (yB rfl) ?_
 conv => whnf
 refine vc_loop (z := false) ?_
 conv => whnf
 refine vd_start (af := C_slices_insertionSortCmpFunc_rank_one) false rfl (yB rfl) ?_
 conv => whnf
 refine vc_loop (z := false) ?_
 conv => whnf
 subst hQ
 rfl
structure Ord (L M : List Id) : Prop where
 len : M.length = L.length
 mem : ∀ y, y ∈ M ↔ y ∈ L
 dst : Dst M
 srt : Srt M 0 M.length
theorem ids_few {h : Heap} {k p : Nat} {S : List Nat} {L : List Id} {P : Nat → Nat} (hr : RAt h k p S L P) (h12 : L.length ≤ 12) {Q : AV → Heap → Prop}
  (hQ : ∀ h' v M, IRow h.next h' v (idl M) → Ord L M → Fr h h' [] → Q v h') : VD fs ms f_rank_Rank_Ids [.ptr k 0] h Q := by
 refine vd_begin (af := C_rank_Rank_Ids) rfl (yB rfl) ?_
 conv => whnf
 refine vc_seq true ?_
 conv => whnf
 refine vc_seq true ?_
 conv => whnf
 refine none_o hr ?_
 conv => whnf
 obtain ⟨rv, c1, c2⟩ := clone_o hr.row hr.pl.len64
 refine vc_seq true ?_
 conv => whnf
 refine ⟨_, ld1 hr.hk rfl, ?_⟩
 conv => whnf
 refine ⟨_, c1, ?_⟩
 conv => whnf
 refine c2 (fun hL => ?_) fun h1 c es op hs hc fr => ?_
 ·conv => whnf
  refine vc_seq true ?_
  conv => whnf
  refine vd_pure sort_nil ?_
  conv => whnf
  refine vc_seq true ?_
  conv => whnf
  refine vc_loop (z := true) ?_
  conv => whnf
  refine vpC_sound (z := true) ?_
  conv => whnf
  subst hL
  refine hQ h .nils [] (.inl ⟨rfl, rfl⟩) ⟨rfl, fun y => Iff.rfl, ?_, ?_⟩ (Fr.refl _ _)
  ·intro i j hi; simp at hi
  ·intro i j h1 h2 h3; simp at h3
 ·conv => whnf
  refine vc_seq true ?_
  conv => whnf
  refine sort_few hs h12 fun h2 M k1 k2 k3 k4 => ?_
  conv => whnf
  have hML := k2.len
  have hd : Dst M := k2.dst hr.pl.dist
  have fr2 : Fr h h2 [] := ⟨Nat.le_trans fr.next k4.next, fun b hb _ => by
   rw [k4.keep b (Nat.lt_of_lt_of_le hb fr.next) (by simp; omega)]
   exact fr.keep b hb (by simp)⟩
  refine vc_seqV (vc_seq true ?_)
  conv => whnf
  refine vc_block ?_
  have h64 := hr.pl.len64
  refine ids_loop (L := M) (N := L.length) h64 hML.symm hc _ 0 h2 .nils _ rfl k1 (Nat.zero_le _) (.inl ⟨rfl, rfl⟩) (fun o n k op e => by cases e) fr2 ⟨rfl, rfl, rfl, rfl, trivial⟩ ?_
  intro h3 v e3 g2 hi hf
  show VC fs ms _ _ _ _ _ _
  refine vc_slots 3 [(2, v)] ⟨g2, trivial⟩ (vpC_sound (z := true) ?_)
  conv => whnf
  refine hQ h3 v M hi ⟨hML.symm, fun y => ?_, hd, by rw [← hML]; exact k3⟩ hf
  rw [mem_gI, mem_gI]
  have := k2.mem y
  rw [← hML]
  constructor
  ·rintro ⟨i, hi, e⟩
   obtain ⟨j, _, j1, j2⟩ := this.2 ⟨i, Nat.zero_le _, hi, e⟩
   exact ⟨j, j1, j2⟩
  ·rintro ⟨i, hi, e⟩
   obtain ⟨j, _, j1, j2⟩ := this.1 ⟨i, Nat.zero_le _, hi, e⟩
   exact ⟨j, j1, j2⟩
structure QAt (h : Heap) (q : Nat) (S : List Nat) (n : Int) (L : List Id) : Prop where
 ex : ∃ k p S' P, S = q :: S' ∧ q ∉ S' ∧ RAt h k p S' L P ∧ h.get q = some (.cells [.ptr k 0, .int .i64 n] true 0) ∧ q < h.next
 n4 : n ≤ 4
 ids : ∀ y ∈ L, (y.1 : Int) < n
theorem QAt.own {h : Heap} {q : Nat} {S : List Nat} {n : Int} {L : List Id} (hq : QAt h q S n L) : ∀ b ∈ S, b < h.next := by
 obtain ⟨k, p, S', P, rfl, hn, hr, hg, hl⟩ := hq.ex
 intro b hb
 rcases List.mem_cons.1 hb with rfl | hb
 ·exact hl
 ·exact hr.own.2.2 b hb
theorem QAt.dst {h : Heap} {q : Nat} {S : List Nat} {n : Int} {L : List Id} (hq : QAt h q S n L) : Dst L := by
 obtain ⟨k, p, S', P, rfl, hn, hr, hg, hl⟩ := hq.ex
 exact hr.pl.dist
theorem RAt.few {h : Heap} {k p : Nat} {S : List Nat} {L : List Id} {P : Nat → Nat} (hr : RAt h k p S L P) {n : Int} (h4 : n ≤ 4) (hi : ∀ y ∈ L, (y.1 : Int) < n) : L.length ≤ 4 :=
 hr.pl.len fun y hy => by have := hi y hy; omega
theorem RAt.keep {h h' : Heap} {k p : Nat} {S T : List Nat} {L : List Id} {P : Nat → Nat} (hr : RAt h k p S L P) (fr : Fr h h' T) (hd : ∀ b ∈ S, b ∉ T) : RAt h' k p S L P := by
 obtain ⟨kS, pS, hS⟩ := hr.own
 refine ⟨by rw [fr.keep k hr.lk (hd k kS)]; exact hr.hk, hr.ne, Nat.lt_of_lt_of_le hr.lk fr.next, Nat.lt_of_lt_of_le hr.lp fr.next, ?_, hr.pl, hr.hp⟩
 rcases hr.row with ⟨h1, h2, h3⟩ | ⟨r, cap, rest, h1, h2, h3, h4⟩
 ·exact .inl ⟨h1, h2, by rw [fr.keep p hr.lp (hd p pS)]; exact h3⟩
 ·have rS : r ∈ S := by rw [h1]; simp
  exact .inr ⟨r, cap, rest, h1, h2, h3, ⟨by rw [fr.keep p hr.lp (hd p pS)]; exact h4.hp, by rw [fr.keep r h4.lr (hd r rS)]; exact h4.hr, h4.ne, Nat.lt_of_lt_of_le h4.lp fr.next, Nat.lt_of_lt_of_le h4.lr fr.next⟩⟩
theorem QAt.keep {h h' : Heap} {q : Nat} {S T : List Nat} {n : Int} {L : List Id} (hq : QAt h q S n L) (fr : Fr h h' T) (hd : ∀ b ∈ S, b ∉ T) : QAt h' q S n L := by
 obtain ⟨k, p, S', P, rfl, hn, hr, hg, hl⟩ := hq.ex
 exact ⟨⟨k, p, S', P, rfl, hn, hr.keep fr fun b hb => hd b (List.mem_cons_of_mem _ hb), by rw [fr.keep q hl (hd q List.mem_cons_self)]; exact hg, Nat.lt_of_lt_of_le hl fr.next⟩, hq.n4, hq.ids⟩

theorem rnew_o {h : Heap} {Q : AV → Heap → Prop} (hQ : ∀ h' k p, RAt h' k p [k, p] [] (fun _ => 0) → h.next ≤ k → h.next ≤ p → Fr h h' [] → Q (.ptr k 0) h') : VD fs ms f_rank_New [] h Q := by
 refine vd_start (af := C_rank_New) true rfl (yB rfl) ?_
 conv => whnf
 refine hQ _ (h.next + 1) h.next ⟨?_, by omega, ?_, ?_, .inl ⟨rfl, rfl, ?_⟩, ?_, ?_⟩ (by omega) (by omega) ((Fr.refl h []).new.new)
 ·exact get_new_same (h := h.new _)
 ·exact Nat.lt_succ_self _
 ·show h.next < h.next + 1 + 1; omega
 ·refine (get_new_ne (h := h.new _) (Nat.lt_succ_self _)).trans (get_new_same.trans ?_)
  rfl
 ·refine ⟨?_, ?_, ?_⟩
  ·intro i hi; simp at hi
  ·intro i hi; simp at hi
  ·intro d _ hd; simp at hd
 ·intro i _ hi; simp at hi
theorem new_o {h : Heap} (n : Int) {Q : AV → Heap → Prop} (h1 : n < 0 ∨ 4 < n → Q (.tup [.nilp, .int .i64 2]) h)
  (h2 : 0 ≤ n → n ≤ 4 → ∀ h' q S, QAt h' q S n [] → (∀ b ∈ S, h.next ≤ b) → Fr h h' [] → Q (.tup [.ptr q 0, .int .i64 0]) h') : VD fs ms f_ready_New [.int .i64 n] h Q := by
 refine vd_start (af := C_ready_New) true rfl (yB rfl) ?_
 conv => whnf
 refine br (fun hc => ?_) (fun hc => ?_) <;> (try rw [hc]) <;> (conv => whnf)
 ·exact h1 (.inl (of_decide_eq_true hc))
 ·have hn0 : ¬ n < 0 := of_decide_eq_false hc
  refine br (fun hc => ?_) (fun hc => ?_) <;> (try rw [hc]) <;> (conv => whnf)
  ·exact h1 (.inr (of_decide_eq_true hc))
  ·have hn4 : ¬ 4 < n := of_decide_eq_false hc
   refine rnew_o fun h' k p hr hk hp fr => ?_
   conv => whnf
   have lk := hr.lk
   have lp := hr.lp
   refine h2 (by omega) (by omega) _ h'.next (h'.next :: [k, p]) ⟨⟨k, p, [k, p], _, rfl, by simp; omega, hr.keep (Fr.refl h' []).new (by simp), get_new_same, Nat.lt_succ_self _⟩, by omega, fun y hy => by simp at hy⟩ ?_ ?_
   ·intro b hb
    simp at hb
    have := fr.next
    omega
   ·exact fr.new
theorem qnone_o {h : Heap} {q : Nat} {S : List Nat} {n : Int} {L : List Id} (hq : QAt h q S n L) {Q : AV → Heap → Prop} (hQ : Q (.bool false) h) : VD fs ms f_ready_Queue_none [.ptr q 0] h Q := by
 obtain ⟨k, p, S', P, rfl, hn, hr, hg, hl⟩ := hq.ex
 refine vd_start (af := C_ready_Queue_none) true rfl (yB rfl) ?_
 conv => whnf
 refine ⟨_, ld1 hg rfl, ?_⟩
 conv => whnf
 exact hQ
theorem qput_o {h : Heap} {q : Nat} {S : List Nat} {n : Int} {L : List Id} (hq : QAt h q S n L) (id d : Int) {Q : AV → Heap → Prop} (h1 : id < 0 ∨ n ≤ id → Q (.int .i64 9) h) (h2 : ¬ (id < 0 ∨ n ≤ id) → d < 0 ∨ 1099511627840 < d → Q (.int .i64 2) h)
  (h3 : ¬ (id < 0 ∨ n ≤ id) → ¬ (d < 0 ∨ 1099511627840 < d) → ∀ y ∈ L, id = (y.1 : Int) → Q (.int .i64 141) h)
  (h4 : ¬ (d < 0 ∨ 1099511627840 < d) → ∀ i : Nat, id = i → id < n → (∀ y ∈ L, y.1 ≠ i) → ∀ h' S' L', QAt h' q S' n L' → (∀ y, y ∈ L' ↔ y ∈ L ∨ y = (i, d)) → Own h h' S S' → Q (.int .i64 0) h') : VD fs ms f_ready_Queue_Put [.ptr q 0, .int .i64 id, .int .i64 d] h Q := by
 refine vd_start (af := C_ready_Queue_Put) true rfl (yB rfl) ?_
 conv => whnf
 refine qnone_o hq ?_
 obtain ⟨k, p, S', P, rfl, hn, hr, hg, hl⟩ := hq.ex
 conv => whnf
 have tail : ¬ (id < 0 ∨ n ≤ id) → ¬ (d < 0 ∨ 1099511627840 < d) → ∀ K : AV → Heap → Prop, (∀ v h', Q v h' → K v h') → VD fs ms f_rank_Rank_Put [.ptr k 0, .int .i64 id, .int .i64 d] h K := by
  intro a1 a2 K hK
  refine put_o hr id d (fun hb => ?_) (fun y hy e => hK _ _ (h3 a1 a2 y hy e)) fun i hi i64 hno h' S1 L' P' r1 r2 r3 => ?_
  ·have := hq.n4; omega
  ·have hown := hr.own.2.2
   refine hK _ _ (h4 a2 i hi (by omega) hno h' (q :: S1) L' ⟨⟨k, p, S1, P', rfl, ?_, r1, ?_, Nat.lt_of_lt_of_le hl r3.fr.next⟩, hq.n4, ?_⟩ r2 ⟨⟨r3.fr.next, fun b hb hnb => r3.fr.keep b hb (by simp at hnb; exact hnb.2)⟩, ?_⟩)
   ·intro hm
    rcases r3.new q hm with h | h
    ·exact hn h
    ·omega
   ·rw [r3.fr.keep q hl hn]; exact hg
   ·intro y hy
    rcases (r2 y).1 hy with h | h
    ·exact hq.ids y h
    ·subst h; show (i : Int) < n; omega
   ·intro b hb
    rcases List.mem_cons.1 hb with rfl | hb
    ·exact .inl List.mem_cons_self
    ·rcases r3.new b hb with h | h
     ·exact .inl (List.mem_cons_of_mem _ h)
     ·exact .inr h
 refine br (fun hc => ?_) (fun hc => ?_) <;> (try rw [hc]) <;> (conv => whnf)
 ·exact h1 (.inl (of_decide_eq_true hc))
 ·have i0 : ¬ id < 0 := of_decide_eq_false hc
  refine ⟨_, ld1 hg rfl, ?_⟩
  conv => whnf
  refine br (fun hc => ?_) (fun hc => ?_) <;> (try rw [hc]) <;> (conv => whnf)
  ·exact h1 (.inr (of_decide_eq_true hc))
  ·have i1 : ¬ n ≤ id := of_decide_eq_false hc
   have hin : ¬ (id < 0 ∨ n ≤ id) := by omega
   refine br (fun hc => ?_) (fun hc => ?_) <;> (try rw [hc]) <;> (conv => whnf)
   ·exact h2 hin (.inl (of_decide_eq_true hc))
   ·have d0 : ¬ d < 0 := of_decide_eq_false hc
    refine br (fun hc => ?_) (fun hc => ?_) <;> (try rw [hc]) <;> (conv => whnf)
    ·exact h2 hin (.inr (of_decide_eq_true hc))
    ·have d1 : ¬ 1099511627840 < d := of_decide_eq_false hc
     refine ⟨_, ld1 hg rfl, ?_⟩
     conv => whnf
     refine tail hin (by omega) _ fun v h' hv => ?_
     conv => whnf
     exact hv

theorem qremove_o {h : Heap} {q : Nat} {S : List Nat} {n : Int} {L : List Id} (hq : QAt h q S n L) (id : Int) {Q : AV → Heap → Prop} (h1 : (∀ y ∈ L, id ≠ (y.1 : Int)) → Q (.bool false) h)
  (h2 : ∀ y : Id, id = (y.1 : Int) → y ∈ L → ∀ h' S' L', QAt h' q S' n L' → (∀ z, z ∈ L' ↔ z ∈ L ∧ z.1 ≠ y.1) → Own h h' S S' → Q (.bool true) h') : VD fs ms f_ready_Queue_Remove [.ptr q 0, .int .i64 id] h Q := by
 refine vd_start (af := C_ready_Queue_Remove) true rfl (yB rfl) ?_
 conv => whnf
 refine qnone_o hq ?_
 obtain ⟨k, p, S', P, rfl, hn, hr, hg, hl⟩ := hq.ex
 conv => whnf
 refine ⟨_, ld1 hg rfl, ?_⟩
 conv => whnf
 refine remove_o hr id (fun hno => ?_) fun y hy hyL h' S1 L' P' r1 r2 r3 => ?_
 ·conv => whnf
  exact h1 hno
 ·conv => whnf
  refine h2 y hy hyL h' (q :: S1) L' ⟨⟨k, p, S1, P', rfl, ?_, r1, ?_, Nat.lt_of_lt_of_le hl r3.fr.next⟩, hq.n4, fun z hz => hq.ids z ((r2 z).1 hz).1⟩ r2 ⟨⟨r3.fr.next, fun b hb hnb => r3.fr.keep b hb (by simp at hnb; exact hnb.2)⟩, ?_⟩
  ·intro hm
   rcases r3.new q hm with h | h
   ·exact hn h
   ·omega
  ·rw [r3.fr.keep q hl hn]; exact hg
  ·intro b hb
   rcases List.mem_cons.1 hb with rfl | hb
   ·exact .inl List.mem_cons_self
   ·rcases r3.new b hb with h | h
    ·exact .inl (List.mem_cons_of_mem _ h)
    ·exact .inr h
def IsFst (L : List Id) (x : Id) : Prop := x ∈ L ∧ ∀ y ∈ L, ah y x = false
theorem hp_fst {L : List Id} (h : Hp L) (hl : 0 < L.length) : IsFst L (gI L 0) := by
 refine ⟨mem_gI.2 ⟨0, hl, rfl⟩, fun y hy => ?_⟩
 obtain ⟨i, hi, rfl⟩ := mem_gI.1 hy
 clear hy
 induction i using Nat.strongRecOn with
 | ind i ih =>
  rcases Nat.eq_zero_or_pos i with rfl | h0
  ·rw [ah_not]; omega
  ·exact ah_tt (h i h0 hi) (ih ((i - 1) / 2) (by omega) (by omega))
theorem qfirst_o {h : Heap} {q : Nat} {S : List Nat} {n : Int} {L : List Id} (hq : QAt h q S n L) {Q : AV → Heap → Prop} (h1 : L = [] → Q (.tup [.int .i64 0, .int .i64 0, .bool false]) h)
  (h2 : ∀ x, IsFst L x → Q (.tup [.int .i64 (x.1 : Nat), .int .i64 x.2, .bool true]) h) : VD fs ms f_ready_Queue_First [.ptr q 0] h Q := by
 refine vd_start (af := C_ready_Queue_First) true rfl (yB rfl) ?_
 conv => whnf
 refine qnone_o hq ?_
 obtain ⟨k, p, S', P, rfl, hn, hr, hg, hl⟩ := hq.ex
 conv => whnf
 refine ⟨_, ld1 hg rfl, ?_⟩
 conv => whnf
 refine first_o hr (fun hL => ?_) fun hl0 => ?_
 ·conv => whnf
  exact h1 hL
 ·conv => whnf
  exact h2 _ (hp_fst hr.hp hl0)
theorem qjobs_o {h : Heap} {q : Nat} {S : List Nat} {n : Int} {L : List Id} (hq : QAt h q S n L) {Q : AV → Heap → Prop} (hQ : ∀ h' v M, IRow h.next h' v (idl M) → Ord L M → M.length ≤ 4 → Fr h h' [] → Q v h') : VD fs ms f_ready_Queue_Jobs [.ptr q 0] h Q := by
 refine vd_start (af := C_ready_Queue_Jobs) true rfl (yB rfl) ?_
 conv => whnf
 refine qnone_o hq ?_
 obtain ⟨k, p, S', P, rfl, hn, hr, hg, hl⟩ := hq.ex
 conv => whnf
 have hfew := hr.few hq.n4 hq.ids
 refine ⟨_, ld1 hg rfl, ?_⟩
 conv => whnf
 refine ids_few hr (by omega) fun h' v M k1 k2 k3 => ?_
 conv => whnf
 exact hQ h' v M k1 k2 (by have := k2.len; omega) k3

theorem IRow.read {lo : Nat} {h : Heap} {v : AV} {l : List Int} (hr : IRow lo h v l) : pV .lenS [v] = some (.int .i64 ((l.length : Nat) : Int)) ∧ ∀ i, i < l.length → ∃ b, pV (.iaddrS 1) [v, .int .i64 ((i : Nat) : Int)] = some (.ptr b (i * 1)) ∧ rV .load1 [.ptr b (i * 1)] h = some (.int .i64 (l.getD i 0)) := by
 rcases hr with ⟨rfl, rfl⟩ | ⟨b, h1, h2, rfl, h4⟩
 ·exact ⟨rfl, fun i hi => by simp at hi⟩
 ·refine ⟨rfl, fun i hi => ⟨b, ?_, ld1 h4 ?_⟩⟩
  ·exact idx_slS3 hi
  ·rw [Nat.mul_one, ints, List.getElem?_map, List.getD_eq_getElem?_getD, List.getElem?_eq_getElem hi]
   rfl
end Ir
end Go.Proofs.YtnlcabhfkpafmaaGreat
