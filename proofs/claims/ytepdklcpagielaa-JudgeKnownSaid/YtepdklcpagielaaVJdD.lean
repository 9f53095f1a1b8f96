/-
  Judge: JudgeCounts.
-/
import Derived.Test.YtepdklcpagielaaVJdC
import Derived.Test.YtepdklcpagielaaVJdW
set_option maxRecDepth 100000
set_option linter.unusedSimpArgs false
set_option linter.unusedVariables false
namespace Go.Proofs.Ytepdklcpagielaa
open Go Ads
namespace Ir
theorem nts_take : ∀ {L : List Nt} {i : Nat} (h : i < L.length), ((flatCells (nts L)).drop (i * 7)).take 7 = (nt L[i]).cells
 | x :: L, 0, h => rfl
 | x :: L, i + 1, h => by
  have := nts_take (L := L) (i := i) (by simpa using h)
  rw [List.getElem_cons_succ, ← this, show (i + 1) * 7 = 7 + i * 7 by omega, ← List.drop_drop]
  rfl
theorem nts_set0 : ∀ (L : List Nt) (i : Nat) (h : i < L.length) (v : Int), Heap.splice (flatCells (nts L)) (i * 7 + 0) [.int .i64 v] = flatCells (nts (L.set i { L[i] with a := v }))
 | x :: L, 0, h, v => by
  show AV.int .i64 v :: Heap.splice _ 0 [] = _
  rw [splice_nil]
  rfl
 | x :: L, i + 1, h, v => by
  have := nts_set0 L i (by simpa using h) v
  rw [List.set_cons_succ, List.getElem_cons_succ, show (i + 1) * 7 + 0 = i * 7 + 0 + 7 by omega]
  show AV.int .i64 x.a :: .int .i64 x.k :: .int .i64 x.p :: .int .i64 x.t :: .int .i64 x.n :: .int .i64 x.e :: .str x.s :: Heap.splice (flatCells (nts L)) (i * 7 + 0) [.int .i64 v] = _
  rw [this]
  rfl
theorem nt_eq (x : Nt) : pV (.neq (.cells [0, 0, 0, 0, 0, 0, 2])) [nt x, nt x] = some (.bool false) := by
 simp [pV, nt, eqA, eqCells, eqOne]

theorem cmp_l {k : Nat} {M : List Nt} {b : Nat} {h0 : Heap} (hb : h0.next ≤ b) (hl : M.length ≤ 140737488355328) {B : Nat} {Q : AX → Env → Heap → Prop} {X0 X1 X2 : AV}
  (hQ : ∀ e' h', Fr h0 h' [] → AllAt e' [(0, X0), (1, X1), (5, X2), (8, .fz k (nts M))] → Q (.exit 0) e' h') :
  ∀ (m j : Nat) (h : Heap) (L : List Nt) (env : Env), M.length - j = m → j ≤ M.length → Fr h0 h [] → L.length = M.length → (∀ i, j ≤ i → L[i]? = M[i]?) → h.get b = some (.cells (flatCells (nts L)) true 7) →
  AllAt env [(0, X0), (1, X1), (5, X2), (7, .sl b 0 M.length M.length true), (8, .fz k (nts M)), (9, .int .i64 ((j : Nat) : Int))] →
  VC fs ms B false (.loop L_escapementlaw26_JudgeCounts_0) env h Q := by
 intro m
 induction m using Nat.strongRecOn with
 | ind m ih =>
 intro j h L env hm hj fr hL hLM hg henv
 refine vc_slots 4 _ henv ?_
 refine vc_loopV (vc_seq true ?_)
 set_option smartUnfolding false in conv => whnf
 refine br (fun hc => ?_) (fun hc => ?_) <;> (try rw [hc]) <;> (set_option smartUnfolding false in conv => whnf)
 ·have hlt : j < M.length := by have := of_decide_eq_true hc; omega
  have hix := idx_nt (k := k) hlt
  have hxe : L[j]'(by omega) = M[j] := by
   have := hLM j (Nat.le_refl _)
   rw [List.getElem?_eq_getElem hlt, List.getElem?_eq_getElem (by omega)] at this
   simpa using this
  have htk := nts_take (L := L) (i := j) (by omega)
  have hst := nts_set0 L j (by omega) (-1)
  have hfl : (flatCells (nts L)).length = L.length * 7 := by rw [flat_size (size_nts L), len_nts]
  rw [hxe] at htk hst
  generalize hx : M[j] = x at *
  refine vc_seqV (vc_block ?_)
  refine vc_seq true ?_
  set_option smartUnfolding false in conv => whnf
  refine ⟨_, idx_slS3 hlt, ?_⟩
  set_option smartUnfolding false in conv => whnf
  refine ⟨nt x, by rw [ldN hg (by omega), htk]; rfl, ?_⟩
  set_option smartUnfolding false in conv => whnf
  refine ⟨_, hix, ?_⟩
  set_option smartUnfolding false in conv => whnf
  refine ⟨nt x, rfl, ?_⟩
  set_option smartUnfolding false in conv => whnf
  refine op_some (nt_eq x) ?_
  set_option smartUnfolding false in conv => whnf
  refine vpC_sound (z := true) ?_
  set_option smartUnfolding false in conv => whnf
  refine ⟨_, idx_slS3 hlt, ?_⟩
  set_option smartUnfolding false in conv => whnf
  refine eff_o (sto_o (n := 1) (v := .int .i64 (-1)) hg rfl (by omega) rfl) fun h1 e1 => ?_
  set_option smartUnfolding false in conv => whnf
  have hg1 : h1.get b = some (.cells (flatCells (nts (L.set j { x with a := -1 }))) true 7) := by rw [e1, get_set_same]; exact congrArg (fun z => some (Blk.cells z true 7)) hst
  have fr1 : Fr h0 h1 [] := by rw [e1]; exact fr.setn hb
  clear e1
  refine vpC_sound (z := true) ?_
  set_option smartUnfolding false in conv => whnf
  refine ih (M.length - (j + 1)) (by omega) (j + 1) h1 _ _ rfl (by omega) fr1 (by rw [List.length_set]; exact hL) (fun i hi => ?_) hg1 ⟨rfl, rfl, rfl, rfl, rfl, inc_slot (by omega), trivial⟩
  rw [List.getElem?_set_ne (by omega)]
  exact hLM i (by omega)
 ·have hge : j = M.length := by have := of_decide_eq_false hc; omega
  exact hQ _ _ fr ⟨rfl, rfl, rfl, rfl, trivial⟩

theorem cmp2_l {k k2 : Nat} {M : List Nt} {h : Heap} (hl : M.length ≤ 140737488355328) {B : Nat} {Q : AX → Env → Heap → Prop} {X0 X1 X2 : AV}
  (hQ : ∀ e', AllAt e' [(0, X0), (1, X1), (5, X2)] → Q (.exit 2) e' h) :
  ∀ (m j : Nat) (env : Env), M.length - j = m → j ≤ M.length →
  AllAt env [(0, X0), (1, X1), (5, X2), (8, .fz k (nts M)), (10, .fz k2 (nts M)), (11, .int .i64 ((j : Nat) : Int))] →
  VC fs ms B false (.loop L_escapementlaw26_JudgeCounts_1) env h Q := by
 intro m
 induction m using Nat.strongRecOn with
 | ind m ih =>
 intro j env hm hj henv
 refine vc_slots 4 _ henv ?_
 refine vc_loopV (vc_seq true ?_)
 set_option smartUnfolding false in conv => whnf
 rw [len_nts]
 refine br (fun hc => ?_) (fun hc => ?_) <;> (try rw [hc]) <;> (set_option smartUnfolding false in conv => whnf)
 ·have hlt : j < M.length := by have := of_decide_eq_true hc; omega
  have hix := idx_nt (k := k) hlt
  have hix2 := idx_nt (k := k2) hlt
  generalize hx : M[j] = x at *
  refine vc_seqV (vc_block ?_)
  refine vpC_sound (z := true) ?_
  set_option smartUnfolding false in conv => whnf
  rw [len_nts]
  rw [show decide (((j : Nat) : Int) ≥ ((M.length : Nat) : Int)) = false from decide_eq_false (by omega)]
  set_option smartUnfolding false in conv => whnf
  refine ⟨_, hix2, ?_⟩
  set_option smartUnfolding false in conv => whnf
  refine ⟨nt x, rfl, ?_⟩
  set_option smartUnfolding false in conv => whnf
  refine ⟨_, hix, ?_⟩
  set_option smartUnfolding false in conv => whnf
  refine ⟨nt x, rfl, ?_⟩
  set_option smartUnfolding false in conv => whnf
  refine op_some (nt_eq x) ?_
  set_option smartUnfolding false in conv => whnf
  refine vpC_sound (z := true) ?_
  set_option smartUnfolding false in conv => whnf
  refine ih (M.length - (j + 1)) (by omega) (j + 1) _ rfl (by omega) ⟨rfl, rfl, rfl, rfl, rfl, inc_slot (by omega), trivial⟩
 ·have hge : j = M.length := by have := of_decide_eq_false hc; omega
  exact hQ _ ⟨rfl, rfl, rfl, trivial⟩

theorem counts_c (k : Nat) (l : List Nt) (p a b : Int) (hl : l.length * 64 ≤ 140737488355328) : PC fs ms f_escapementlaw26_JudgeCounts [.fz k (nts l), .int .i64 p, .agg [.int .i64 a, .int .i64 b]] (.bool true) := by
 have hfl := flt_le p l
 refine pc_of (by simp [clL, AV.cl, cl_nts]) rfl ?_
 refine vd_begin (af := C_escapementlaw26_JudgeCounts) rfl (Nat.le_of_ble_eq_true rfl) ?_
 generalize hQ : (fun (u : AV) (_ : Heap) => u = .bool true) = Q
 have hend : Q (.bool true) = fun _ => True := by subst hQ; funext; simp
 set_option smartUnfolding false in conv => whnf
 refine vc_seq true ?_
 set_option smartUnfolding false in conv => whnf
 refine vc_seq true ?_
 set_option smartUnfolding false in conv => whnf
 refine jof_c k l p hl fun v1 h2 hr1 fr1 => ?_
 set_option smartUnfolding false in conv => whnf
 refine rofN_c k l p hl fun v2 h3 hr2 fr2 => ?_
 set_option smartUnfolding false in conv => whnf
 have g2 : h2.get 0 = some (.cells [.int .i64 a, .int .i64 b] true 0) := (fr1.keep 0 (show 0 < 1 by omega) (by simp)).trans get_new_same
 have n2 : 1 ≤ h2.next := fr1.next
 have hr1 : NR 1 h2 v1 (flt p l) := hr1
 clear fr1
 generalize hM : flt p l = M at *
 refine vc_seq true ?_
 set_option smartUnfolding false in conv => whnf
 rw [(hr1.keep fr2).len]
 set_option smartUnfolding false in conv => whnf
 rw [hr2.len]
 set_option smartUnfolding false in conv => whnf
 rw [show (((M.length : Nat) : Int) != ((M.length : Nat) : Int)) = false by simp]
 set_option smartUnfolding false in conv => whnf
 obtain ⟨k2, bs2, hfz2, hbs2⟩ := hr2.frzB
 refine vc_frz bs2 (i := 8) (v' := .fz k2 (nts M)) rfl hfz2 ?_
 have fr4 := fr_delB hbs2 fr2
 have hr4 := hr1.keep fr4
 have g4 : (delAll bs2 h3).get 0 = some (.cells [.int .i64 a, .int .i64 b] true 0) := (fr4.keep 0 (by omega) (by simp)).trans g2
 have n4 : 1 ≤ (delAll bs2 h3).next := Nat.le_trans n2 fr4.next
 generalize delAll bs2 h3 = h4 at *
 clear hr2 fr2 hfz2 hbs2 fr4 hr1 g2 n2
 refine vc_slots 4 [(0, .fz k (nts l)), (1, .int .i64 p), (5, .ptr 0 0), (7, v1), (8, .fz k2 (nts M))] ⟨rfl, rfl, rfl, rfl, rfl, trivial⟩ ?_
 refine vc_seqV (vc_seq true ?_)
 set_option smartUnfolding false in conv => whnf
 refine vc_block ?_
 refine VC.mono (Q := fun x e' h' => x = .exit 0 ∧ h'.get 0 = some (.cells [.int .i64 a, .int .i64 b] true 0) ∧ 1 ≤ h'.next ∧ AllAt e' [(0, .fz k (nts l)), (1, .int .i64 p), (5, .ptr 0 0), (8, .fz k2 (nts M))]) ?_ ?_
 ·rcases hr4 with ⟨hM0, rfl⟩ | ⟨b1, hb1, hb2, rfl, hb3⟩
  ·subst hM0
   refine vc_loopV (vc_seq true ?_)
   set_option smartUnfolding false in conv => whnf
   exact ⟨rfl, g4, n4, rfl, rfl, rfl, rfl, trivial⟩
  ·refine cmp_l (k := k2) (M := M) (b := b1) (h0 := ⟨1, h4.m⟩) hb1 (by omega) (X0 := .fz k (nts l)) (X1 := .int .i64 p) (X2 := .ptr 0 0) ?_ M.length 0 h4 M _ rfl (Nat.zero_le _) ⟨n4, fun c _ _ => rfl⟩ rfl (fun i _ => rfl) hb3 ⟨rfl, rfl, rfl, rfl, rfl, rfl, trivial⟩
   intro e' h' fr he
   refine ⟨rfl, (fr.keep 0 (by show 0 < 1; omega) (by simp)).trans g4, fr.next, he⟩
 rintro x e' h5 ⟨rfl, g5, n5, he⟩
 show VC fs ms _ _ _ _ _ _
 refine vc_slots 4 _ he ?_
 refine vc_seq true ?_
 set_option smartUnfolding false in conv => whnf
 refine jof_c k l p hl fun v3 h6 hr3 fr6 => ?_
 set_option smartUnfolding false in conv => whnf
 have g6 : h6.get 0 = some (.cells [.int .i64 a, .int .i64 b] true 0) := (fr6.keep 0 (by omega) (by simp)).trans g5
 have n6 : 1 ≤ h6.next := Nat.le_trans n5 fr6.next
 rw [hM] at hr3
 obtain ⟨k3, bs3, hfz3, hbs3⟩ := hr3.frzB
 refine vc_frz bs3 (i := 10) (v' := .fz k3 (nts M)) rfl hfz3 ?_
 have fr7 := fr_delB hbs3 fr6
 have g7 : (delAll bs3 h6).get 0 = some (.cells [.int .i64 a, .int .i64 b] true 0) := (fr7.keep 0 (by omega) (by simp)).trans g5
 have n7 : 1 ≤ (delAll bs3 h6).next := Nat.le_trans n5 fr7.next
 generalize delAll bs3 h6 = h7 at *
 clear hr3 fr6 hfz3 hbs3 fr7 g6 n6 g5 n5
 refine vc_frz [0] (i := 5) (v' := .fp [.int .i64 a, .int .i64 b] 0) rfl (.ptr' (by simp) g7 (.cons (.clean rfl) (.cons (.clean rfl) .nil))) ?_
 generalize delAll [0] h7 = h8 at *
 refine vc_slots 4 [(0, .fz k (nts l)), (1, .int .i64 p), (5, .fp [.int .i64 a, .int .i64 b] 0), (8, .fz k2 (nts M)), (10, .fz k3 (nts M))] ⟨rfl, rfl, rfl, rfl, rfl, trivial⟩ ?_
 refine vc_seqV (vc_seq true ?_)
 set_option smartUnfolding false in conv => whnf
 refine vc_block ?_
 refine cmp2_l (k := k2) (k2 := k3) (M := M) (by omega) (X0 := .fz k (nts l)) (X1 := .int .i64 p) (X2 := .fp [.int .i64 a, .int .i64 b] 0) ?_ M.length 0 _ rfl (Nat.zero_le _) ⟨rfl, rfl, rfl, rfl, rfl, rfl, trivial⟩
 intro e' he
 show VC fs ms _ _ _ _ _ _
 refine vc_slots 4 _ he (vpC_sound (z := true) ?_)
 set_option smartUnfolding false in conv => whnf
 refine ⟨.fp [.int .i64 a, .int .i64 b] 0, rfl, ?_⟩
 set_option smartUnfolding false in conv => whnf
 refine ⟨.int .i64 a, rfl, ?_⟩
 set_option smartUnfolding false in conv => whnf
 refine ⟨.fp [.int .i64 a, .int .i64 b] 1, rfl, ?_⟩
 set_option smartUnfolding false in conv => whnf
 refine ⟨.int .i64 b, rfl, ?_⟩
 set_option smartUnfolding false in conv => whnf
 refine jran_c k l p a b hl fun h9 _ => ?_
 set_option smartUnfolding false in conv => whnf
 refine ⟨.fp [.int .i64 a, .int .i64 b] 0, rfl, ?_⟩
 set_option smartUnfolding false in conv => whnf
 refine ⟨.int .i64 a, rfl, ?_⟩
 set_option smartUnfolding false in conv => whnf
 refine ⟨.fp [.int .i64 a, .int .i64 b] 1, rfl, ?_⟩
 set_option smartUnfolding false in conv => whnf
 refine ⟨.int .i64 b, rfl, ?_⟩
 set_option smartUnfolding false in conv => whnf
 refine rran_c k l p a b hl ?_
 set_option smartUnfolding false in conv => whnf
 rw [show (((ranN p a b l : Nat) : Int) == ((ranN p a b l : Nat) : Int)) = true by simp]
 set_option smartUnfolding false in conv => whnf
 refine vd_pure works26_c ?_
 set_option smartUnfolding false in conv => whnf
 refine ⟨winOk_of (by (set_option smartUnfolding false in conv => whnf); repeat' (first | exact trivial | (exact ⟨rfl, rfl, .inr ⟨_, _, rfl⟩⟩) | (refine ⟨rfl, rfl, .inl ⟨rfl, fun o ho => ?_⟩⟩; cases ho; first | rfl) | (exact ⟨rfl, .inr ⟨_, _, rfl⟩⟩) | (refine ⟨rfl, .inl ⟨rfl, fun i o hi ho => ?_⟩⟩; cases hi; cases ho; first | rfl) | (refine And.intro (fun hon => (Bool.false_ne_true hon).elim) ?_ <;> set_option smartUnfolding false in conv => whnf) | (refine And.intro (fun _ => ?_) ?_ <;> set_option smartUnfolding false in conv => whnf) | (refine And.intro ?_ ?_ <;> set_option smartUnfolding false in conv => whnf))), ?_⟩
 subst hQ
 rfl
end Ir
end Go.Proofs.Ytepdklcpagielaa
