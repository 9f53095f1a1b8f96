/-
  Heaps that are not known but for some blocks: how operations read and write them. Rank: ids with their keys, as cells; ahead, lay.
-/
import Derived.Test.YtepdklcpagielaaVR0
import Derived.Test.YtepdklcpagielaaVsHeap
set_option maxRecDepth 100000
set_option linter.unusedSimpArgs false
set_option linter.unusedVariables false
namespace Go.Proofs.Ytepdklcpagielaa
open Go Ads
namespace Ads

theorem sto_o {h : Heap} {b o n es : Nat} {vs : List AV} {v : AV} (hg : h.get b = some (.cells vs true es)) (hn : v.cells.length = n) (hl : o + n ≤ vs.length) (hf : flatL v.cells = true) :
  eV (.store n) [.ptr b o, v] h = some (.undef, h.set b (.cells (Heap.splice vs o v.cells) true es)) := by
 have b1 : Nat.beq v.cells.length n = true := by rw [hn]; exact Nat.beq_refl n
 have b2 : Nat.ble (o + v.cells.length) vs.length = true := Nat.ble_eq_true_of_le (by omega)
 show cond (Nat.beq v.cells.length n) ((h.storeN b o v.cells).map fun h => (AV.undef, h)) none = _
 rw [b1, cond_true]
 simp only [Heap.storeN, hg, b2, hf, Bool.and_self, cond_true]
 rfl
theorem get_set_o {h : Heap} {b c : Nat} {x : Blk} : (h.set b x).get c = if c = b then some x else h.get c := Tr.get_set _ _ _ _
theorem get_set_same {h : Heap} {b : Nat} {x : Blk} : (h.set b x).get b = some x := by rw [get_set_o, if_pos rfl]
theorem get_set_ne {h : Heap} {b c : Nat} {x : Blk} (hn : c ≠ b) : (h.set b x).get c = h.get c := by rw [get_set_o, if_neg hn]
theorem get_new_same {h : Heap} {x : Blk} : (h.new x).get h.next = some x := by rw [Heap.get_new, if_pos rfl]
theorem get_new_ne {h : Heap} {c : Nat} {x : Blk} (hn : c < h.next) : (h.new x).get c = h.get c := by rw [Heap.get_new, if_neg (by omega)]
theorem idx_arr {b o n j s : Nat} (h : j < n) : pV (.iaddrA s n) [.ptr b o, .int .i64 (j : Nat)] = some (.ptr b (o + j * s)) := by
 have b1 : Nat.ble (j + 1) n = true := Nat.ble_eq_true_of_le h
 simp only [pV, l2, dNat]
 show cond (Nat.ble (j + 1) n) (some (AV.ptr b (o + j * s))) none = _
 rw [b1, cond_true]
theorem idx_slS3 {b n cap j s : Nat} {op : Bool} (h : j < n) : pV (.iaddrS s) [.sl b 0 n cap op, .int .i64 (j : Nat)] = some (.ptr b (j * s)) := by
 have b1 : Nat.ble (j + 1) n = true := Nat.ble_eq_true_of_le h
 simp only [pV, l2, dNat]
 show cond (Nat.ble (j + 1) n) (some (AV.ptr b (0 + j * s))) none = _
 rw [b1, cond_true, Nat.zero_add]
structure Fr (h h' : Heap) (bs : List Nat) : Prop where
 next : h.next ≤ h'.next
 keep : ∀ b, b < h.next → b ∉ bs → h'.get b = h.get b
theorem Fr.refl (h : Heap) (bs : List Nat) : Fr h h bs := ⟨Nat.le_refl _, fun _ _ _ => rfl⟩
theorem Fr.trans {h h1 h2 : Heap} {bs : List Nat} (a : Fr h h1 bs) (b : Fr h1 h2 bs) : Fr h h2 bs := ⟨Nat.le_trans a.next b.next, fun c hc hn => (b.keep c (Nat.lt_of_lt_of_le hc a.next) hn).trans (a.keep c hc hn)⟩
theorem Fr.set {h h1 : Heap} {bs : List Nat} {b : Nat} {x : Blk} (a : Fr h h1 bs) (hb : b ∈ bs) : Fr h (h1.set b x) bs := ⟨a.next, fun c hc hn => by rw [get_set_ne (by intro e; subst e; exact hn hb)]; exact a.keep c hc hn⟩
theorem Fr.new {h h1 : Heap} {bs : List Nat} {x : Blk} (a : Fr h h1 bs) : Fr h (h1.new x) bs := ⟨Nat.le_succ_of_le a.next, fun c hc hn => by rw [get_new_ne (Nat.lt_of_lt_of_le hc a.next)]; exact a.keep c hc hn⟩
theorem Fr.setn {h h1 : Heap} {bs : List Nat} {b : Nat} {x : Blk} (a : Fr h h1 bs) (hb : h.next ≤ b) : Fr h (h1.set b x) bs := ⟨a.next, fun c hc hn => by rw [get_set_ne (by omega)]; exact a.keep c hc hn⟩
end Ads
namespace Ir

abbrev Id := Nat × Int
def ob (x : Id) : AV := .agg [.int .i64 (x.1 : Nat), .int .i64 x.2]
def obs (L : List Id) : List AV := L.map ob
def oc (L : List Id) : List AV := flatCells (obs L)
def plc (P : Nat → Nat) : List AV := (List.range 64).map fun i => .int .i64 ((P i : Nat) : Int)
def upd (P : Nat → Nat) (i v : Nat) : Nat → Nat := fun j => if j = i then v else P j
structure HAt (h : Heap) (p r cap : Nat) (op : Bool) (L : List Id) (P : Nat → Nat) (rest : List AV) : Prop where
 hp : h.get p = some (.cells (.sl r 0 L.length cap op :: plc P) true 0)
 hr : h.get r = some (.cells (oc L ++ rest) true 2)
 ne : p ≠ r
 lp : p < h.next
 lr : r < h.next

end Ir
end Go.Proofs.Ytepdklcpagielaa
