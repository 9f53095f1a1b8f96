/-
  Judge: Find answers as the document does.
-/
import Derived.Test.YtepdklcpagielaaVJg
import Derived.Test.YtepdklcpagielaaVJdW
set_option maxRecDepth 100000
set_option linter.unusedSimpArgs false
set_option linter.unusedVariables false
namespace Go.Proofs.Ytepdklcpagielaa
open Go Ads
namespace Ir
theorem nt_same (x : Nt) : pV (.neq (.cells [0, 0, 0, 0, 0, 0, 2])) [nt x, nt x] = some (.bool false) := by
 simp [pV, nt, eqA, eqCells, eqOne]
theorem cut_nts {k n : Nat} {l : List Nt} (h : n ≤ l.length) : pV (.slice 7 false true false) [.fz k (nts l), .int .i64 ((n : Nat) : Int)] = some (.fz (sliceKind k false n l.length l.length) (nts (l.take n))) := by
 have hb : bounds (nts l).length (nts l).length false true false [.int .i64 ((n : Nat) : Int)] = some (0, n, (nts l).length) := by
  have b1 : Nat.ble 0 n = true := Nat.ble_eq_true_of_le (Nat.zero_le _)
  have b2 : Nat.ble n (nts l).length = true := by rw [len_nts]; exact Nat.ble_eq_true_of_le h
  have b3 : Nat.ble (nts l).length (nts l).length = true := Nat.ble_eq_true_of_le (Nat.le_refl _)
  show cond (Nat.ble 0 n && Nat.ble n (nts l).length && Nat.ble (nts l).length (nts l).length) _ _ = _
  rw [b1, b2, b3]
  rfl
 show sliceV 7 false true false k (nts l) [.int .i64 ((n : Nat) : Int)] = _
 unfold sliceV
 rw [hb]
 have h0 : (Nat.beq 0 (nts l).length && Nat.beq k 0 && !Nat.beq 0 0) = false := by simp
 show cond (Nat.beq 0 (nts l).length && Nat.beq k 0 && !Nat.beq 0 0) _ _ = _
 rw [h0, cond_false, size_nts, cond_true, len_nts, List.drop_zero, Nat.sub_zero, nts, nts, List.map_take]
theorem flatL_nts : ∀ l : List Nt, flatL (flatCells (nts l)) = true
 | [] => rfl
 | x :: l => by
  show flatL ((nt x).cells ++ flatCells (nts l)) = true
  simp only [nt, AV.cells, List.cons_append, List.nil_append, flatL_one, flatL_nts l]
  rfl
theorem cpP_idem (L : List Pt) : (L.map cpP).map cpP = L.map cpP := by
 rw [List.map_map]
 rfl
theorem Fits.cp {L : List Pt} {O : List Po} (h : Fits L O) : Fits (L.map cpP) O := by
 refine ⟨by rw [List.length_map]; exact h.parts, fun x hx => ?_, h.ports⟩
 obtain ⟨y, hy, rfl⟩ := List.mem_map.1 hx
 exact h.tasks y hy

theorem jcmp_l {k1 k2 : Nat} {M : List Nt} (hl : M.length ≤ 17592186044416) {h : Heap} {B : Nat} {Q : AX → Env → Heap → Prop} {Y3 Y7 : AV} {Y : List AV}
  (hY : Y.length = 6) (hQ : ∀ e', AllAt e' [(3, Y3), (7, Y7), (9, Y.getD 0 .undef), (10, Y.getD 1 .undef), (11, Y.getD 2 .undef), (12, Y.getD 3 .undef), (13, Y.getD 4 .undef), (14, Y.getD 5 .undef)] → Q (.exit 0) e' h) :
  ∀ (m j : Nat) (env : Env), M.length - j = m → j ≤ M.length → AllAt env [(1, .fz k1 (nts M)), (3, Y3), (7, Y7), (8, .fz k2 (nts M)), (9, Y.getD 0 .undef), (10, Y.getD 1 .undef), (11, Y.getD 2 .undef), (12, Y.getD 3 .undef), (13, Y.getD 4 .undef), (14, Y.getD 5 .undef), (15, .int .i64 ((j : Nat) : Int))] →
  VC fs ms B false (.loop L_escapementlaw26_JudgeFinds_0) env h Q := by
 intro m
 induction m using Nat.strongRecOn with
 | ind m ih =>
 intro j env hm hj henv
 refine vc_slots 5 _ henv ?_
 refine vc_loopV (vc_seq true ?_)
 set_option smartUnfolding false in conv => whnf
 rw [len_nts]
 refine br (fun hc => ?_) (fun hc => ?_) <;> (try rw [hc]) <;> (set_option smartUnfolding false in conv => whnf)
 ·have hlt : j < M.length := by have := of_decide_eq_true hc; omega
  refine vpC_sound (z := true) ?_
  set_option smartUnfolding false in conv => whnf
  refine ⟨_, idx_nt hlt, ?_⟩
  set_option smartUnfolding false in conv => whnf
  refine ⟨nt M[j], rfl, ?_⟩
  set_option smartUnfolding false in conv => whnf
  refine ⟨_, idx_nt hlt, ?_⟩
  set_option smartUnfolding false in conv => whnf
  refine ⟨nt M[j], rfl, ?_⟩
  set_option smartUnfolding false in conv => whnf
  refine op_some (nt_same _) ?_
  set_option smartUnfolding false in conv => whnf
  exact ih (M.length - (j + 1)) (by omega) (j + 1) _ rfl (by omega) ⟨rfl, rfl, rfl, rfl, rfl, rfl, rfl, rfl, rfl, rfl, inc_slot (by omega), trivial⟩
 ·exact hQ _ ⟨rfl, rfl, rfl, rfl, rfl, rfl, rfl, rfl, trivial⟩

theorem judgeFinds_c (k : Nat) (L : List Pt) (ko : Nat) (O : List Po) (kl : Nat) (l : List Nt) (un : Int) (hf : Fits L O) (hk : k = 3 → L = []) (hl : l.length * 64 ≤ 140737488355328) :
  PC fs ms f_escapementlaw26_JudgeFinds [cfg k L ko O, .fz kl (nts l), .int .i64 un] (.bool true) := by
 refine pc_of (by simp [clL, cl_cfg, AV.cl, cl_nts]) rfl ?_
 generalize (⟨0, .nil⟩ : Heap) = h0
 refine vd_begin (af := C_escapementlaw26_JudgeFinds) rfl (Nat.le_of_ble_eq_true rfl) ?_
 generalize hQ : (fun (v : AV) (_ : Heap) => v = .bool true) = Q
 have hend : ∀ h, Q (.bool true) h := by subst hQ; intro h; rfl
 clear hQ
 set_option smartUnfolding false in conv => whnf
 refine vc_seq true ?_
 set_option smartUnfolding false in conv => whnf
 have g1 : (h0.new (.cells (cfg k L ko O).cells true 0)).get h0.next = some (.cells [.fz k (pts L), .fz ko (pos O)] true 0) := get_new_same
 have n1 : h0.next < (h0.new (.cells (cfg k L ko O).cells true 0)).next := Nat.lt_succ_self _
 generalize h0.new (.cells (cfg k L ko O).cells true 0) = h1 at *
 generalize h0.next = p3 at *
 have hfz : Frz (· ∈ [p3]) h1 (.ptr p3 0) (.fp [.fz k (pts L), .fz ko (pos O)] 0) := .ptr' (by simp) g1 (.clean (by simp [clL, AV.cl, cl_pts, cl_pos]))
 refine vc_frz [p3] (i := 3) rfl hfz ?_
 generalize delAll [p3] h1 = h2
 clear g1 n1 hfz
 refine vc_slots 4 [(1, .fz kl (nts l)), (2, .int .i64 un), (3, .fp [.fz k (pts L), .fz ko (pos O)] 0)] ⟨rfl, rfl, rfl, trivial⟩ ?_
 obtain ⟨n, hn, hn1⟩ : ∃ n : Nat, (bif decide ((300 : Int) < ((l.length : Nat) : Int)) then (300 : Int) else ((l.length : Nat) : Int)) = ((n : Nat) : Int) ∧ n ≤ l.length := by
  by_cases h : 300 < l.length
  ·exact ⟨300, by rw [decide_eq_true (by omega)]; rfl, by omega⟩
  ·exact ⟨l.length, by rw [decide_eq_false (by omega)]; rfl, Nat.le_refl _⟩
 refine vc_seq true ?_
 set_option smartUnfolding false in conv => whnf
 rw [len_nts]
 rw [hn]
 refine ⟨_, cut_nts hn1, ?_⟩
 set_option smartUnfolding false in conv => whnf
 have hM : (l.take n).length ≤ 17592186044416 := by rw [List.length_take]; omega
 have hM64 : (l.take n).length * 64 ≤ 140737488355328 := by rw [List.length_take]; omega
 generalize l.take n = M at *
 generalize sliceKind kl false n l.length l.length = k1 at *
 refine vc_seqV (VC.mono (Q := fun y e h => y = .normal ∧ h = h2 ∧ ∃ u : Int, AllAt e [(1, .fz k1 (nts M)), (2, .int .i64 u), (3, .fp [.fz k (pts L), .fz ko (pos O)] 0)]) ?_ ?_)
 ·refine vpC_sound (z := true) ?_
  set_option smartUnfolding false in conv => whnf
  refine br (fun hc => ?_) (fun hc => ?_) <;> (try rw [hc]) <;> (set_option smartUnfolding false in conv => whnf)
  ·refine ⟨.int .i64 (un.tmod 5), rfl, ?_⟩
   set_option smartUnfolding false in conv => whnf
   refine br (fun hc => ?_) (fun hc => ?_) <;> (try rw [hc]) <;> (set_option smartUnfolding false in conv => whnf)
   ·refine ⟨.int .i64 (un.tmod 600), rfl, ?_⟩
    set_option smartUnfolding false in conv => whnf
    exact ⟨rfl, rfl, _, rfl, rfl, rfl, trivial⟩
   ·exact ⟨rfl, rfl, _, rfl, rfl, rfl, trivial⟩
  ·exact ⟨rfl, rfl, _, rfl, rfl, rfl, trivial⟩
 rintro y e h ⟨rfl, rfl, u, he⟩
 show VC fs ms _ _ _ _ _ _
 refine vc_slots 4 _ he ?_
 clear he
 refine vc_seqV (VC.mono (Q := fun y e h3 => y = .normal ∧ ∃ v w p7, GR 3 h.next h3 v (pts (L.map cpP)) ∧ GR 6 h.next h3 w (pos O) ∧ h3.get p7 = some (.cells [v, w] true 0) ∧ AllAt e [(1, .fz k1 (nts M)), (2, .int .i64 u), (3, .fp [.fz k (pts L), .fz ko (pos O)] 0), (7, .ptr p7 0)]) ?_ ?_)
 ·refine vpC_sound (z := true) ?_
  set_option smartUnfolding false in conv => whnf
  refine ⟨cfg k L ko O, rfl, ?_⟩
  set_option smartUnfolding false in conv => whnf
  refine copy5_c k ko hf (fun h3 v w hv hw fr3 => ?_)
  set_option smartUnfolding false in conv => whnf
  have hfl : flatL [v, w] = true := by
   rcases hv with ⟨_, rfl⟩ | ⟨_, b, _, _, rfl, _⟩ <;> rcases hw with ⟨_, rfl⟩ | ⟨_, b2, _, _, rfl, _⟩ <;> rfl
  refine eff_o (sto_o (n := 2) (v := .agg [v, w]) get_new_same rfl (Nat.le_refl _) hfl) fun h4 e4 => ?_
  set_option smartUnfolding false in conv => whnf
  have fr4 : Fr h3 h4 [] := by rw [e4]; exact ((Fr.refl h3 []).new (x := _)).setn (Nat.le_refl _)
  exact ⟨rfl, v, w, h3.next, hv.keep fr4 (by simp), hw.keep fr4 (by simp), by rw [e4, get_set_same]; rfl, rfl, rfl, rfl, rfl, trivial⟩
 rintro y e h3 ⟨rfl, v, w, p7, hv, hw, g7, he⟩
 show VC fs ms _ _ _ _ _ _
 refine vc_slots 4 _ he ?_
 clear he
 obtain ⟨b1, hz1, hb1⟩ := hv.frz (size_pts _) (cl_pts _)
 obtain ⟨b2, hz2, hb2⟩ := hw.frz (size_pos _) (cl_pos _)
 rw [len_pts, List.length_map] at hz1
 rw [len_pos] at hz2
 generalize growK L.length = k3 at *
 generalize growK O.length = k4 at *
 have hfz : Frz (· ∈ p7 :: (b1 ++ b2)) h3 (.ptr p7 0) (.fp [.fz k3 (pts (L.map cpP)), .fz k4 (pos O)] 0) :=
  .ptr' (by simp) g7 (.cons (hz1.mono fun b hb => by simp [hb]) (.cons (hz2.mono fun b hb => by simp [hb]) .nil))
 refine vc_frz (p7 :: (b1 ++ b2)) (i := 7) rfl hfz ?_
 generalize delAll (p7 :: (b1 ++ b2)) h3 = h4
 clear hfz g7 hv hw hz1 hz2 hb1 hb2
 refine vc_slots 4 [(1, .fz k1 (nts M)), (2, .int .i64 u), (3, .fp [.fz k (pts L), .fz ko (pos O)] 0), (7, .fp [.fz k3 (pts (L.map cpP)), .fz k4 (pos O)] 0)] ⟨rfl, rfl, rfl, rfl, trivial⟩ ?_
 refine vc_seq true ?_
 set_option smartUnfolding false in conv => whnf
 refine vc_seqV (VC.mono (Q := fun y e h5 => y = .normal ∧ ∃ v, GR 7 h4.next h5 v (nts M) ∧ AllAt e [(1, .fz k1 (nts M)), (2, .int .i64 u), (3, .fp [.fz k (pts L), .fz ko (pos O)] 0), (7, .fp [.fz k3 (pts (L.map cpP)), .fz k4 (pos O)] 0), (8, v)]) ?_ ?_)
 ·refine vpC_sound (z := true) ?_
  set_option smartUnfolding false in conv => whnf
  have hflat : flatL (flatCells (nts M)) = true := flatL_nts M
  obtain ⟨v, h5, e5, hv, fr5⟩ := GR.copy (bytes := 64) (k := k1) (lo := h4.next) (h := h4) (Nat.le_refl _) (size_nts M) hflat (by rw [len_nts]; exact hM64) (by rw [len_nts]; omega)
  refine eff_o e5 fun h5' e5' => ?_
  subst e5'
  set_option smartUnfolding false in conv => whnf
  exact ⟨rfl, v, hv, rfl, rfl, rfl, rfl, rfl, trivial⟩
 rintro y e h5 ⟨rfl, v, hv, he⟩
 show VC fs ms _ _ _ _ _ _
 refine vc_slots 4 _ he ?_
 clear he
 obtain ⟨b1, hz1, hb1⟩ := hv.frz (size_nts _) (cl_nts _)
 rw [len_nts] at hz1
 generalize growK M.length = k5 at *
 refine vc_frz b1 (i := 8) rfl hz1 ?_
 generalize delAll b1 h5 = h6
 clear hv hz1 hb1
 refine vc_slots 4 [(1, .fz k1 (nts M)), (2, .int .i64 u), (3, .fp [.fz k (pts L), .fz ko (pos O)] 0), (7, .fp [.fz k3 (pts (L.map cpP)), .fz k4 (pos O)] 0), (8, .fz k5 (nts M))] ⟨rfl, rfl, rfl, rfl, rfl, trivial⟩ ?_
 have hj := jfind_c (k := k) (ko := ko) (kl := k5) hf hk hM u
 have hr := rfind_c (k := k3) (ko := k4) (kl := k1) hf.cp hM u
 rw [cpP_idem, ← find_eq] at hr
 have hsame := same5_c k ko k3 k4 hf
 generalize findT L O M u = r at *
 obtain ⟨r1, r2, r3⟩ := r
 refine vc_seq true ?_
 set_option smartUnfolding false in conv => whnf
 refine ⟨cfg k L ko O, rfl, ?_⟩
 set_option smartUnfolding false in conv => whnf
 refine vd_pure hj ?_
 set_option smartUnfolding false in conv => whnf
 refine vc_seq true ?_
 set_option smartUnfolding false in conv => whnf
 refine ⟨cfg k3 (L.map cpP) k4 O, rfl, ?_⟩
 set_option smartUnfolding false in conv => whnf
 refine vd_pure hr ?_
 set_option smartUnfolding false in conv => whnf
 refine vc_seqV (vc_seq true ?_)
 set_option smartUnfolding false in conv => whnf
 refine vc_block ?_
 refine jcmp_l (k1 := k1) (k2 := k5) (M := M) hM (Y3 := .fp [.fz k (pts L), .fz ko (pos O)] 0) (Y7 := .fp [.fz k3 (pts (L.map cpP)), .fz k4 (pos O)] 0) (Y := [.int .i64 r1, .int .i64 r2, .int .i64 r3, .int .i64 r1, .int .i64 r2, .int .i64 r3]) rfl (fun e' he => ?_) M.length 0 _ rfl (Nat.zero_le _) ⟨rfl, rfl, rfl, rfl, rfl, rfl, rfl, rfl, rfl, rfl, rfl, trivial⟩
 show VC fs ms _ _ _ _ _ _
 refine vc_slots 4 _ he (vpC_sound (z := true) ?_)
 clear he hj hr
 have hb : ∀ a : Int, (a == a) = true := fun a => by simp
 set_option smartUnfolding false in conv => whnf
 refine brt (hb _) (fun hc => ?_)
 (try rw [hc])
 set_option smartUnfolding false in conv => whnf
 refine brt (hb _) (fun hc => ?_)
 (try rw [hc])
 set_option smartUnfolding false in conv => whnf
 refine brt (hb _) (fun hc => ?_)
 (try rw [hc])
 set_option smartUnfolding false in conv => whnf
 refine ⟨cfg k L ko O, rfl, ?_⟩
 set_option smartUnfolding false in conv => whnf
 refine ⟨cfg k3 (L.map cpP) k4 O, rfl, ?_⟩
 set_option smartUnfolding false in conv => whnf
 refine vd_pure hsame ?_
 set_option smartUnfolding false in conv => whnf
 refine vd_pure works26_c ?_
 set_option smartUnfolding false in conv => whnf
 exact hend _
end Ir
end Go.Proofs.Ytepdklcpagielaa
