/-
  Heaps that are not known but for some blocks: how operations read and write them. Rank: ids with their keys, as cells; ahead, lay.
-/
import Derived.Test.YtmnolnoeibhjgaaGreatVR0
import Derived.Test.YtmnolnoeibhjgaaGreatVsHeap
set_option maxRecDepth 100000
set_option linter.unusedSimpArgs false
set_option linter.unusedVariables false
namespace Go.Proofs.YtmnolnoeibhjgaaGreat
open Go Ads
namespace Ads

theorem sto_o {h : Heap} {b o n es : Nat} {vs : List AV} {v : AV} (hg : h.get b = some (.cells vs true es)) (hn : v.cells.length = n) (hl : o + n ≤ vs.length) (hf : flatL v.cells = true) :
    eV (.store n) [.ptr b o, v] h = some (.undef, h.set b (.cells (Heap.splice vs o v.cells) true es)) := by
  have b1 : Nat.beq v.cells.length n = true := by rw [hn]; exact Nat.beq_refl n
  have b2 : Nat.ble (o + v.cells.length) vs.length = true := Nat.ble_eq_true_of_le (by omega)
  show cond (Nat.beq v.cells.length n) ((h.storeN b o v.cells).map fun h => (AV.undef, h)) none = _
  rw [b1, cond_true]
  simp only [Heap.storeN, hg, b2, hf, Bool.and_self, cond_true]
  rfl
theorem get_set_o {h : Heap} {b c : Nat} {x : Blk} : (h.set b x).get c = if c = b then some x else h.get c := Tr.get_set _ _ _ _
theorem get_set_same {h : Heap} {b : Nat} {x : Blk} : (h.set b x).get b = some x := by rw [get_set_o, if_pos rfl]
theorem get_set_ne {h : Heap} {b c : Nat} {x : Blk} (hn : c ≠ b) : (h.set b x).get c = h.get c := by rw [get_set_o, if_neg hn]
theorem get_new_same {h : Heap} {x : Blk} : (h.new x).get h.next = some x := by rw [Heap.get_new, if_pos rfl]
theorem get_new_ne {h : Heap} {c : Nat} {x : Blk} (hn : c < h.next) : (h.new x).get c = h.get c := by rw [Heap.get_new, if_neg (by omega)]
theorem idx_arr {b o n j s : Nat} (h : j < n) : pV (.iaddrA s n) [.ptr b o, .int .i64 (j : Nat)] = some (.ptr b (o + j * s)) := by
  have b1 : Nat.ble (j + 1) n = true := Nat.ble_eq_true_of_le h
  simp only [pV, l2, dNat]
  show cond (Nat.ble (j + 1) n) (some (AV.ptr b (o + j * s))) none = _
  rw [b1, cond_true]
theorem idx_slS3 {b n cap j s : Nat} {op : Bool} (h : j < n) : pV (.iaddrS s) [.sl b 0 n cap op, .int .i64 (j : Nat)] = some (.ptr b (j * s)) := by
  have b1 : Nat.ble (j + 1) n = true := Nat.ble_eq_true_of_le h
  simp only [pV, l2, dNat]
  show cond (Nat.ble (j + 1) n) (some (AV.ptr b (0 + j * s))) none = _
  rw [b1, cond_true, Nat.zero_add]
/-- Blocks that are there keep what they hold, but for some. -/
structure Fr (h h' : Heap) (bs : List Nat) : Prop where
  next : h.next ≤ h'.next
  keep : ∀ b, b < h.next → b ∉ bs → h'.get b = h.get b
theorem Fr.refl (h : Heap) (bs : List Nat) : Fr h h bs := ⟨Nat.le_refl _, fun _ _ _ => rfl⟩
theorem Fr.trans {h h1 h2 : Heap} {bs : List Nat} (a : Fr h h1 bs) (b : Fr h1 h2 bs) : Fr h h2 bs := ⟨Nat.le_trans a.next b.next, fun c hc hn => (b.keep c (Nat.lt_of_lt_of_le hc a.next) hn).trans (a.keep c hc hn)⟩
theorem Fr.set {h h1 : Heap} {bs : List Nat} {b : Nat} {x : Blk} (a : Fr h h1 bs) (hb : b ∈ bs) : Fr h (h1.set b x) bs := ⟨a.next, fun c hc hn => by rw [get_set_ne (by intro e; subst e; exact hn hb)]; exact a.keep c hc hn⟩
theorem Fr.new {h h1 : Heap} {bs : List Nat} {x : Blk} (a : Fr h h1 bs) : Fr h (h1.new x) bs := ⟨Nat.le_succ_of_le a.next, fun c hc hn => by rw [get_new_ne (Nat.lt_of_lt_of_le hc a.next)]; exact a.keep c hc hn⟩
/-- A new block may be written. -/
theorem Fr.setn {h h1 : Heap} {bs : List Nat} {b : Nat} {x : Blk} (a : Fr h h1 bs) (hb : h.next ≤ b) : Fr h (h1.set b x) bs := ⟨a.next, fun c hc hn => by rw [get_set_ne (by omega)]; exact a.keep c hc hn⟩
end Ads
namespace Ir

abbrev Id := Nat × Int
def ob (x : Id) : AV := .agg [.int .i64 (x.1 : Nat), .int .i64 x.2]
def obs (L : List Id) : List AV := L.map ob
def oc (L : List Id) : List AV := flatCells (obs L)
theorem size_obs (L : List Id) : allSize 2 (obs L) = true := allSize_map (enc := ob) (fun _ => rfl) L
theorem len_obs (L : List Id) : (obs L).length = L.length := List.length_map ..
theorem oc_len (L : List Id) : (oc L).length = L.length * 2 := by rw [oc, flat_size (size_obs L), len_obs]
theorem oc_id {L : List Id} {i : Nat} (h : i < L.length) : (oc L)[i * 2 + 0]? = some (.int .i64 (L[i].1 : Nat)) :=
  flat_at (size_obs L) (x := ob L[i]) (by rw [obs, List.getElem?_map, List.getElem?_eq_getElem h]; rfl) rfl
theorem oc_key {L : List Id} {i : Nat} (h : i < L.length) : (oc L)[i * 2 + 1]? = some (.int .i64 L[i].2) :=
  flat_at (size_obs L) (x := ob L[i]) (by rw [obs, List.getElem?_map, List.getElem?_eq_getElem h]; rfl) rfl
theorem oc_take {L : List Id} {i : Nat} (h : i < L.length) (rest : List AV) : ((oc L ++ rest).drop (i * 2)).take 2 = [.int .i64 (L[i].1 : Nat), .int .i64 L[i].2] := by
  have hl := oc_len L
  refine List.ext_getElem? fun k => ?_
  rw [List.getElem?_take]
  match k with
  | 0 => rw [if_pos (by omega), List.getElem?_drop, List.getElem?_append_left (by omega), oc_id h]; rfl
  | 1 => rw [if_pos (by omega), List.getElem?_drop, List.getElem?_append_left (by omega), oc_key h]; rfl
  | k + 2 => rw [if_neg (by omega)]; rfl
theorem oc_set : ∀ (L : List Id) (i : Nat) (_ : i < L.length) (x : Id) (rest : List AV), Heap.splice (oc L ++ rest) (i * 2) [.int .i64 (x.1 : Nat), .int .i64 x.2] = oc (L.set i x) ++ rest
  | y :: L, 0, _, x, rest => by
    show AV.int .i64 (x.1 : Nat) :: AV.int .i64 x.2 :: Heap.splice (oc L ++ rest) 0 [] = AV.int .i64 (x.1 : Nat) :: AV.int .i64 x.2 :: (oc L ++ rest)
    rw [splice_nil]
  | y :: L, i + 1, h, x, rest => by
    have ih := oc_set L i (by simpa using h) x rest
    show Heap.splice (AV.int .i64 (y.1 : Nat) :: AV.int .i64 y.2 :: (oc L ++ rest)) ((i + 1) * 2) _ = AV.int .i64 (y.1 : Nat) :: AV.int .i64 y.2 :: (oc (L.set i x) ++ rest)
    rw [show (i + 1) * 2 = i * 2 + 1 + 1 by omega, ← ih]
    rfl

/-- Where ids are. -/
def plc (P : Nat → Nat) : List AV := (List.range 64).map fun i => .int .i64 ((P i : Nat) : Int)
def upd (P : Nat → Nat) (i v : Nat) : Nat → Nat := fun j => if j = i then v else P j
theorem plc_len (P : Nat → Nat) : (plc P).length = 64 := by simp [plc]
theorem plc_get {P : Nat → Nat} {i : Nat} (h : i < 64) : (plc P)[i]? = some (.int .i64 ((P i : Nat) : Int)) := by
  simp [plc, List.getElem?_map, List.getElem?_range h]
theorem plc_set {P : Nat → Nat} {i : Nat} (h : i < 64) (v : Nat) (a : AV) : Heap.splice (a :: plc P) (1 + i * 1) [.int .i64 ((v : Nat) : Int)] = a :: plc (upd P i v) := by
  rw [splice_at _ _ _ (by rw [List.length_cons, plc_len]; omega), show 1 + i * 1 = i + 1 by omega, List.set_cons_succ]
  congr 1
  refine List.ext_getElem? fun k => ?_
  rw [List.getElem?_set]
  by_cases hk : k < 64
  · rw [plc_get hk, plc_get hk, plc_len, if_pos h, upd]
    by_cases hki : i = k
    · subst hki; simp
    · rw [if_neg hki, if_neg (Ne.symm hki)]
  · rw [List.getElem?_eq_none (by rw [plc_len]; omega), List.getElem?_eq_none (by rw [plc_len]; omega), plc_len, if_pos h]
    split
    · omega
    · rfl

/-- The heap of ids, as it lies. -/
structure HAt (h : Heap) (p r cap : Nat) (op : Bool) (L : List Id) (P : Nat → Nat) (rest : List AV) : Prop where
  hp : h.get p = some (.cells (.sl r 0 L.length cap op :: plc P) true 0)
  hr : h.get r = some (.cells (oc L ++ rest) true 2)
  ne : p ≠ r
  lp : p < h.next
  lr : r < h.next

def ah (a b : Id) : Bool := decide (a.2 < b.2) || (decide (a.2 = b.2) && decide (a.1 < b.1))
theorem lay_o {h : Heap} {p r cap : Nat} {op : Bool} {L : List Id} {P : Nat → Nat} {rest : List AV} {i : Nat} {x : Id} (hh : HAt h p r cap op L P rest) (hi : i < L.length) (hx : x.1 < 64) (hl : L.length < 2 ^ 62) {Q : AV → Heap → Prop}
    (hQ : ∀ h', HAt h' p r cap op (L.set i x) (upd P x.1 (i + 1)) rest → Fr h h' [p, r] → Q (.tup []) h') : VD fs ms f_rank_heaped_lay [.ptr p 0, .int .i64 (i : Nat), ob x] h Q := by
  refine vd_start (af := C_rank_heaped_lay) true rfl (Nat.le_of_ble_eq_true rfl) ?_
  obtain ⟨x1, x2⟩ := x
  obtain ⟨hp, hr, ne, lp, lr⟩ := hh
  set_option smartUnfolding false in conv => whnf
  refine ⟨_, ld1 (by rw [get_new_ne lp]; exact hp) rfl, ?_⟩
  set_option smartUnfolding false in conv => whnf
  refine ⟨_, ldN get_new_same (Nat.le_refl _), ?_⟩
  set_option smartUnfolding false in conv => whnf
  refine ⟨_, idx_slS3 hi, ?_⟩
  set_option smartUnfolding false in conv => whnf
  have hlen := oc_len L
  refine ⟨_, _, sto_o (by rw [get_new_ne lr]; exact hr) rfl (by rw [List.length_append]; omega) rfl, ?_⟩
  set_option smartUnfolding false in conv => whnf
  refine ⟨_, ld1 (by rw [get_set_ne (by omega)]; exact get_new_same) rfl, ?_⟩
  set_option smartUnfolding false in conv => whnf
  rw [inc_val (by omega)]
  refine ⟨_, idx_arr (o := 1) hx, ?_⟩
  set_option smartUnfolding false in conv => whnf
  have hlp := plc_len P
  refine ⟨_, _, sto_o (by rw [get_set_ne ne, get_new_ne lp]; exact hp) rfl (by rw [List.length_cons]; show 1 + x1 * 1 + 1 ≤ _; simp only at hx; omega) rfl, ?_⟩
  set_option smartUnfolding false in conv => whnf
  refine hQ _ ⟨?_, ?_, ne, ?_, ?_⟩ ?_
  · rw [get_set_same]
    show some (Blk.cells (Heap.splice _ (1 + x1 * 1) [.int .i64 ((i + 1 : Nat) : Int)]) true 0) = _
    rw [plc_set hx, List.length_set]
  · rw [get_set_ne (Ne.symm ne), get_set_same]
    show some (Blk.cells (Heap.splice _ (i * 2) [.int .i64 ((x1 : Nat) : Int), .int .i64 x2]) true 2) = _
    have := oc_set L i hi (x1, x2) rest
    rw [this]
  · exact Nat.lt_succ_of_lt lp
  · exact Nat.lt_succ_of_lt lr
  · exact (((Fr.refl _ _).new).set (by simp)).set (by simp)
end Ir
end Go.Proofs.YtmnolnoeibhjgaaGreat
