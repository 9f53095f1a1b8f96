/-
  Rows of jobs as cells.
-/
import Derived.Test.YtlndlbngfgaoeaaVLkQ
import Derived.Test.YtlndlbngfgaoeaaVsPre
set_option maxRecDepth 100000
set_option linter.unusedSimpArgs false
set_option linter.unusedVariables false
namespace Go.Proofs.Ytlndlbngfgaoeaa
open Go Ads
namespace Ir
open Edf

theorem cl_ptf (x : Pt) : (AV.fp (pt x).cells 0).cl = true := by simp [AV.cl, clL, pt, AV.cells, cl_tks]
def jb (x : Int × Int) : AV := .agg [.int .i64 x.1, .int .i64 x.2]
def jbs (J : List (Int × Int)) : List AV := J.map jb
theorem cl_jbs (J : List (Int × Int)) : clL (jbs J) = true := clL_map (enc := jb) (fun _ => rfl) J
theorem size_jbs (J : List (Int × Int)) : allSize 2 (jbs J) = true := allSize_map (enc := jb) (fun _ => rfl) J
theorem len_jbs (J : List (Int × Int)) : (jbs J).length = J.length := List.length_map ..
def jc (J : List (Int × Int)) : List AV := flatCells (jbs J)
theorem jc_cl (J : List (Int × Int)) : clL (jc J) = true := flat_cl (cl_jbs J)
theorem jc_len (J : List (Int × Int)) : (jc J).length = J.length * 2 := by rw [jc, flat_size (size_jbs J), len_jbs]
theorem jc_e {J : List (Int × Int)} {i : Nat} (h : i < J.length) : (jc J)[i * 2 + 0]? = some (.int .i64 (jE J i)) := by
 rw [jE_eq h]
 exact flat_at (size_jbs J) (x := jb J[i]) (by rw [jbs, List.getElem?_map, List.getElem?_eq_getElem h]; rfl) rfl
theorem jc_l {J : List (Int × Int)} {i : Nat} (h : i < J.length) : (jc J)[i * 2 + 1]? = some (.int .i64 (jL J i)) := by
 rw [jL_eq h]
 exact flat_at (size_jbs J) (x := jb J[i]) (by rw [jbs, List.getElem?_map, List.getElem?_eq_getElem h]; rfl) rfl
theorem jc_set : ∀ (J : List (Int × Int)) (i : Nat) (_ : i < J.length) (x : Int × Int), Heap.splice (jc J) (i * 2) [.int .i64 x.1, .int .i64 x.2] = jc (J.set i x)
 | y :: J, 0, _, x => by
  show AV.int .i64 x.1 :: AV.int .i64 x.2 :: Heap.splice (jc J) 0 [] = AV.int .i64 x.1 :: AV.int .i64 x.2 :: jc J
  rw [splice_nil]
 | y :: J, i + 1, h, x => by
  have ih := jc_set J i (by simpa using h) x
  show Heap.splice (AV.int .i64 y.1 :: AV.int .i64 y.2 :: jc J) ((i + 1) * 2) _ = AV.int .i64 y.1 :: AV.int .i64 y.2 :: jc (J.set i x)
  rw [show (i + 1) * 2 = i * 2 + 1 + 1 by omega, ← ih]
  rfl
theorem splice_pair {α : Type} : ∀ (C : List α) (o : Nat) (a b : α), o + 1 < C.length → Heap.splice C o [a, b] = (C.set o a).set (o + 1) b
 | [], o, a, b, h => by simp at h
 | [c], 0, a, b, h => by simp at h
 | c :: d :: C, 0, a, b, _ => by
  show a :: b :: Heap.splice C 0 [] = _
  rw [splice_nil]
  rfl
 | c :: C, o + 1, a, b, h => by
  show c :: Heap.splice C o [a, b] = _
  rw [splice_pair C o a b (by simpa using h)]
  rfl
theorem extra_cons {md : Int} {lt : List Int} {d : Nat} (h : lt ≠ []) : extra md lt d = (lt.getD (d % lt.length) 0) % md := by
 cases lt with
 | nil => exact absurd rfl h
 | cons a r => rfl
theorem jc_left {J : List (Int × Int)} {i : Nat} (h : i < J.length) (n : Int) : Heap.splice (jc J) (i * 2 + 1) [.int .i64 n] = jc (J.set i (jE J i, n)) := by
 rw [splice_at _ _ _ (by rw [jc_len]; omega), jE_eq h]
 have h2 := jc_set J i h (J[i].1, n)
 rw [← h2]
 have h3 := splice_pair (jc J) (i * 2) (.int .i64 J[i].1) (.int .i64 n) (by rw [jc_len]; omega)
 rw [h3]
 have h4 : (jc J).set (i * 2) (.int .i64 J[i].1) = jc J := by
  refine List.ext_getElem? fun k => ?_
  rw [List.getElem?_set]
  by_cases hk : i * 2 = k
  ·subst hk
   have := jc_e h
   rw [Nat.add_zero, jE_eq h] at this
   rw [if_pos rfl, if_pos (by rw [jc_len]; omega), this]
  ·rw [if_neg hk]
 rw [h4]
theorem ints_at {n : List Int} {i : Nat} (h : i < n.length) : (ints n)[i]? = some (.int .i64 (nX n i)) := by
 rw [nX_eq h, ints, List.getElem?_map, List.getElem?_eq_getElem h]
 rfl
theorem ints_set {n : List Int} {i : Nat} (h : i < n.length) (x : Int) : Heap.splice (ints n) i [.int .i64 x] = ints (n.set i x) := by
 rw [splice_at _ _ _ (by rw [len_ints]; exact h), ints, ints, List.map_set]

theorem idx_slS2 {b n cap j s : Nat} {op : Bool} (h : j < n) : pV (.iaddrS s) [.sl b 0 n cap op, .int .i64 (j : Nat)] = some (.ptr b (j * s)) := by
 have b1 : Nat.ble (j + 1) n = true := Nat.ble_eq_true_of_le h
 simp only [pV, l2, dNat]
 show cond (Nat.ble (j + 1) n) (some (AV.ptr b (0 + j * s))) none = _
 rw [b1, cond_true, Nat.zero_add]

end Ir
end Go.Proofs.Ytlndlbngfgaoeaa
