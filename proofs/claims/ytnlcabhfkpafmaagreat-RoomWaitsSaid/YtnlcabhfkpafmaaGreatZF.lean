/-
  Room: new rooms. Room: what does not change it: Deadline, Fault, Next, Held, Jobs, Sole; Run and Did. Room: Held, Jobs, Sole; Run and Did. Room: Lock and Unlock. Room: Unlock. Room: End and Who. Room: Release. Room: Release, where the operations lie in the heap.
-/
import Derived.Test.YtnlcabhfkpafmaaGreatZE
set_option maxRecDepth 100000
set_option linter.unusedSimpArgs false
set_option linter.unusedVariables false
set_option smartUnfolding false
namespace Go.Proofs.YtnlcabhfkpafmaaGreat
open Go Ads
namespace Ir
theorem mk_nil {n : Nat} (hn : n ≤ 4) : aI (.mkslice [.nilp] 1 8) [.int .i64 (n : Nat), .int .i64 (n : Nat)] = some (.cells (List.replicate n .nilp) true 0, fun b => .sl b 0 n n false) := by
 have b2 : Nat.ble (8 * n) 140737488355328 = true := Nat.ble_eq_true_of_le (by omega)
 have b3 : Nat.ble n 9223372036854775807 = true := Nat.ble_eq_true_of_le (by omega)
 have b1 : Nat.ble n n = true := Nat.ble_eq_true_of_le (by omega)
 have z : ∀ n, zerosN [.nilp] n = List.replicate n .nilp := fun n => by
  induction n with
  | zero => rfl
  | succ n ih => rw [List.replicate_succ, ← ih]; rfl
 rw [← z]
 show cond (Nat.ble n n && Nat.ble (8 * n) 140737488355328 && Nat.ble n 9223372036854775807) (some (Blk.cells (zerosN [.nilp] n) true 0, fun b => AV.sl b 0 n n false)) none = _
 rw [b1, b2, b3]
 rfl
theorem demCheck_4 {l : List Tk} (h : tasksOk l = true) : l.length ≤ 4 := by
 rw [tasksOk, Bool.and_eq_true, decide_eq_true_eq] at h
 exact h.2
structure Nw (h0 : Heap) (col0 : Nat → Nat) (h : Heap) (col : Nat → Nat) (r k2 J : Nat) (T : List Tk) (gv : AV) (gs : List (Nat × Int)) : Prop where
 r0 : h0.next ≤ r
 lt : r < h.next
 co : col r = 1
 get : h.get r = some (.cells [.nilp, .nilp, .fz k2 (tks T), gv, .sl J 0 T.length T.length false] true 0)
 jl : J < h.next
 jc : col J = 4
 jg : h.get J = some (.cells (List.replicate T.length .nilp) true 0)
 row : (gs = [] ∧ gv = .nils) ∨ ∃ G, gv = .sl G 0 gs.length gs.length true ∧ G < h.next ∧ (h0.next ≤ G ∧ col G = 5) ∧ h.get G = some (.cells (gs.map fun g => .ptr g.1 0) true 1)
 all : ∀ i g t, gs[i]? = some g → T[i]? = some t → t.p ≠ 0 ∧ g.1 < h.next ∧ col g.1 = 20 + i ∧ h.get g.1 = some (gB t.p g.2)
 z : gs.map Prod.snd = List.replicate gs.length 0
 kc : Kc h0 h col0 col (fun _ => False)
theorem Nw.keep {h0 h h' : Heap} {col0 col col' : Nat → Nat} {r k2 J : Nat} {T : List Tk} {gv : AV} {gs : List (Nat × Int)} (S : Nw h0 col0 h col r k2 J T gv gs) (f : Kc h h' col col' (fun _ => False)) : Nw h0 col0 h' col' r k2 J T gv gs := by
 refine ⟨S.r0, Nat.lt_of_lt_of_le S.lt f.next, (f.col r S.lt).trans S.co, (f.keep r S.lt id).trans S.get, Nat.lt_of_lt_of_le S.jl f.next, (f.col J S.jl).trans S.jc, (f.keep J S.jl id).trans S.jg, ?_, fun i g t hg ht => ?_, S.z, S.kc.trans f⟩
 ·rcases S.row with h | ⟨G, h1, h2, h3, h4⟩
  ·exact .inl h
  ·exact .inr ⟨G, h1, Nat.lt_of_lt_of_le h2 f.next, ⟨h3.1, (f.col G h2).trans h3.2⟩, (f.keep G h2 id).trans h4⟩
 ·obtain ⟨h1, h2, h3, h4⟩ := S.all i g t hg ht
  exact ⟨h1, Nat.lt_of_lt_of_le h2 f.next, (f.col _ h2).trans h3, (f.keep _ h2 id).trans h4⟩
theorem Nw.app {h0 h : Heap} {col0 col : Nat → Nat} {r k2 J : Nat} {T : List Tk} {gv : AV} {gs : List (Nat × Int)} (S : Nw h0 col0 h col r k2 J T gv gs) (hl : gs.length ≤ 4) (g : Nat) :
  ∃ v' g' G, eV (.append 1 8) [gv, .sl h.next 0 1 1 false] (h.new (.cells [.ptr g 0] true 0)) = some (v', g') ∧ v' = .sl G 0 (gs.length + 1) (gs.length + 1) true ∧ h.next ≤ G ∧ G < g'.next ∧
   g'.get G = some (.cells ((gs.map fun g => .ptr g.1 0) ++ [.ptr g 0]) true 1) ∧ h.next ≤ g'.next ∧ ∀ c, c < h.next → (c < h0.next ∨ col c ≠ 5) → g'.get c = h.get c := by
 have hsrc : srcV 1 (h.new (.cells [.ptr g 0] true 0)) (.sl h.next 0 1 1 false) = some (1, [.ptr g 0]) := src_new get_new_same rfl
 rcases S.row with ⟨h1, h2⟩ | ⟨G, h1, h2, h3, h4⟩
 ·subst h1 h2
  refine ⟨_, _, h.next + 1, app_nilsS (by omega) hsrc rfl, rfl, by omega, Nat.lt_succ_self _, ?_, by show h.next ≤ h.next + 1 + 1; omega, fun c hc _ => ?_⟩
  ·exact get_new_same (h := h.new (.cells [.ptr g 0] true 0))
  ·exact (get_new_ne (h := h.new (.cells [.ptr g 0] true 0)) (show c < h.next + 1 by omega)).trans (get_new_ne hc)
 ·subst h1
  have hg : (h.new (.cells [.ptr g 0] true 0)).get G = some (.cells (gs.map fun g => .ptr g.1 0) true 1) := by rw [get_new_ne h2]; exact h4
  refine ⟨_, _, h.next + 1, app_full hg (by rw [List.length_map, Nat.mul_one]) hsrc rfl (by omega) (by omega), rfl, by omega, Nat.lt_succ_self _, ?_, by show h.next ≤ h.next + 1 + 1; omega, fun c hc hn => ?_⟩
  ·exact get_new_same (h := (h.new (.cells [.ptr g 0] true 0)).del G)
  ·have hne : c ≠ G := by
    rintro rfl
    rcases hn with h | h
    ·have := h3.1; omega
    ·exact h h3.2
   exact (get_new_ne (h := (h.new (.cells [.ptr g 0] true 0)).del G) (show c < h.next + 1 by omega)).trans ((get_del_ne hne).trans (get_new_ne hc))
theorem rmnew_l {T : List Tk} {k k2 J r B : Nat} {h0 : Heap} {col0 : Nat → Nat} {Q : AX → Env → Heap → Prop} (hok : ∀ t ∈ T, 1 ≤ t.p ∧ t.p ≤ 64) (hT : T.length ≤ 4)
  (hQ : ∀ h col gv gs e, Nw h0 col0 h col r k2 J T gv gs → gs.length = T.length → AllAt e [(0, .fz k (tks T)), (5, .ptr r 0)] → Q (.exit 0) e h) :
  ∀ (m i : Nat) (h : Heap) (col : Nat → Nat) (gv : AV) (gs : List (Nat × Int)) (env : Env), T.length - i = m → i ≤ T.length → gs.length = i → Nw h0 col0 h col r k2 J T gv gs →
   AllAt env [(0, .fz k (tks T)), (5, .ptr r 0), (25, .fz k (tks T)), (26, .int .i64 ((T.length : Nat) : Int)), (27, .int .i64 ((i : Nat) : Int))] → VC fs ms B false (.loop L_room_New_0) env h Q := by
 intro m
 induction m using Nat.strongRecOn with
 | ind m ih =>
 intro i h col gv gs env hm hi hg S henv
 refine vc_slots 6 _ henv ?_
 refine vc_loop (z := true) ?_
 conv => whnf
 refine br (fun hc => ?_) (fun hc => ?_) <;> (try rw [hc]) <;> (conv => whnf)
 ·have hlt : i < T.length := by have := of_decide_eq_true hc; omega
  refine ⟨_, idx_tk hlt, ?_⟩
  conv => whnf
  obtain ⟨t, ht⟩ : ∃ t, t = T[i] := ⟨_, rfl⟩
  have ht1 : T[i]? = some t := by rw [ht]; exact List.getElem?_eq_getElem hlt
  have hp := hok t (by rw [ht]; exact List.getElem_mem _)
  rw [← ht]
  refine ⟨tk t, rfl, ?_⟩
  conv => whnf
  refine eff_o (sto_o get_new_same rfl (Nat.le_refl _) rfl) fun h1 e1 => ?_
  conv => whnf
  have fr1 : Fr h h1 [] := by rw [e1]; exact ((Fr.refl h []).new (x := _)).setn (Nat.le_refl _)
  have gb : h1.get h.next = some (.cells (tk t).cells true 0) := by rw [e1, get_set_same]; rfl
  clear e1
  refine ⟨_, ld1 gb rfl, ?_⟩
  conv => whnf
  refine gnew_c (fun _ => ?_) (fun h => (h hp).elim)
  conv => whnf
  have fr2 : Fr h (h1.new (gB t.p 0)) [] := fr1.new
  have hgn := get_new_same (h := h1) (x := gB t.p 0)
  have hgl : h1.next < (h1.new (gB t.p 0)).next := Nat.lt_succ_self _
  have hcg : cadd col h.next (20 + i) h1.next = 20 + i := cadd_new fr1.next
  have S2 := S.keep (Kc.nil (col := col) fr2 (20 + i))
  generalize h1.new (gB t.p 0) = h2 at *
  generalize cadd col h.next (20 + i) = col2 at *
  generalize h1.next = gn at *
  refine ⟨_, ld1 S2.get rfl, ?_⟩
  conv => whnf
  obtain ⟨v', g', G, a1, rfl, a2, a3, a4, a5, a6⟩ := S2.app (by omega) gn
  refine ⟨_, _, a1, ?_⟩
  conv => whnf
  have hr2 : g'.get r = some (.cells [.nilp, .nilp, .fz k2 (tks T), gv, .sl J 0 T.length T.length false] true 0) := (a6 r S2.lt (.inr (by rw [S2.co]; decide))).trans S2.get
  refine ⟨_, _, sto_o hr2 rfl (yB rfl) rfl, ?_⟩
  conv => whnf
  have hGr : G ≠ r := by have := S2.lt; omega
  have hJr : J ≠ r := by intro e; have := S2.jc; rw [e, S2.co] at this; omega
  refine ih (T.length - (i + 1)) (by omega) (i + 1) _ (cadd col2 h2.next 5) _ (gs ++ [(gn, 0)]) _ rfl (by omega) (by simp [hg]) ⟨S2.r0, Nat.lt_of_lt_of_le S2.lt a5, (cadd_old S2.lt).trans S2.co, get_set_same, Nat.lt_of_lt_of_le S2.jl a5, (cadd_old S2.jl).trans S2.jc, ?_, ?_, fun n g u hn hu => ?_, ?_, ?_⟩ ⟨rfl, rfl, rfl, rfl, inc_slot (by omega), trivial⟩
  ·exact (get_set_ne hJr).trans ((a6 J S2.jl (.inr (by rw [S2.jc]; decide))).trans S2.jg)
  ·refine .inr ⟨G, ?_, a3, ⟨Nat.le_trans S2.kc.next a2, cadd_new a2⟩, ?_⟩
   ·rw [List.length_append]; rfl
   ·rw [List.map_append]
    exact (get_set_ne hGr).trans a4
  ·have key : ∀ (n : Nat) (g : Nat × Int) (u : Tk), (u.p ≠ 0 ∧ g.1 < h2.next ∧ col2 g.1 = 20 + n ∧ h2.get g.1 = some (gB u.p g.2)) → u.p ≠ 0 ∧ g.1 < (g'.set r (.cells (Heap.splice [.nilp, .nilp, .fz k2 (tks T), gv, .sl J 0 T.length T.length false] (0 + 3) (AV.sl G 0 (gs.length + 1) (gs.length + 1) true).cells) true 0)).next ∧ cadd col2 h2.next 5 g.1 = 20 + n ∧
     (g'.set r (.cells (Heap.splice [.nilp, .nilp, .fz k2 (tks T), gv, .sl J 0 T.length T.length false] (0 + 3) (AV.sl G 0 (gs.length + 1) (gs.length + 1) true).cells) true 0)).get g.1 = some (gB u.p g.2) := by
    rintro n g u ⟨h1, h2, h3, h4⟩
    have hne : g.1 ≠ r := by intro e; rw [e, S2.co] at h3; omega
    exact ⟨h1, Nat.lt_of_lt_of_le h2 a5, (cadd_old h2).trans h3, (get_set_ne hne).trans ((a6 _ h2 (.inr (by omega))).trans h4)⟩
   by_cases e : n < gs.length
   ·rw [List.getElem?_append_left e] at hn
    exact key n g u (S2.all n g u hn hu)
   ·rw [List.getElem?_append_right (by omega)] at hn
    have e0 : n - gs.length = 0 := by
     have := (List.getElem?_eq_some_iff.1 hn).1
     simp at this
     omega
    rw [e0] at hn
    cases hn
    have en : n = i := by omega
    subst en
    rw [ht1] at hu
    cases hu
    exact key n (gn, 0) t ⟨by omega, hgl, hcg, hgn⟩
  ·rw [List.map_append, S2.z, List.length_append]
   exact (List.replicate_succ' ..).symm
  ·refine ⟨Nat.le_trans S2.kc.next a5, fun c hc hn => ?_, fun c hc => (cadd_old (Nat.lt_of_lt_of_le hc S2.kc.next)).trans (S2.kc.col c hc)⟩
   have hne : c ≠ r := by have := S2.r0; omega
   exact (get_set_ne hne).trans ((a6 c (Nat.lt_of_lt_of_le hc S2.kc.next) (.inl hc)).trans (S2.kc.keep c hc id))
 ·have hge : i = T.length := by have := of_decide_eq_false hc; omega
  exact hQ _ _ _ _ _ S (by omega) ⟨rfl, rfl, trivial⟩
set_option smartUnfolding true in
theorem rmnew_c {h : Heap} {col : Nat → Nat} {Q : AV → Heap → Prop} (k : Nat) (T : List Tk) (hk : k = 3 → T = []) (hT : T.length ≤ 1000)
  (h0 : demCheck T (List.replicate T.length 0) ≠ 0 → ∀ h', Fr h h' [] → Q (.tup [.nilp, .int .i64 (demCheck T (List.replicate T.length 0))]) h')
  (h1 : tasksOk T = true → ∀ h' col' r, RA h' col' r ⟨T, [], List.replicate T.length none, List.replicate T.length 0⟩ → Kc h h' col col' (fun _ => False) → Q (.tup [.ptr r 0, .int .i64 0]) h') : VD fs ms f_room_New [.fz k (tks T)] h Q := by
 refine vd_begin (af := C_room_New) rfl (yB rfl) ?_
 set_option smartUnfolding false in conv => whnf
 refine vc_seq true ?_
 set_option smartUnfolding false in conv => whnf
 refine vc_seqV (vc_seq true ?_)
 set_option smartUnfolding false in conv => whnf
 rw [len_tks]
 refine ⟨_, _, mk_ints (by omega), ?_⟩
 set_option smartUnfolding false in conv => whnf
 have g0 : (h.new (.cells (ints (List.replicate T.length 0)) true 0)).get h.next = some (.cells (flatCells (ints (List.replicate T.length 0)) ++ []) true 0) := by rw [flat_ints, List.append_nil]; exact get_new_same
 have fr0 : Fr h (h.new (.cells (ints (List.replicate T.length 0)) true 0)) [] := (Fr.refl h []).new
 refine vd_view (check_c k 0 T (List.replicate T.length 0) (by omega) (by rw [List.length_replicate]; omega)) rfl (.cons (.clean (by simp [AV.cl, cl_tks])) (.cons (frz_pre trivial g0 rfl (size_ints _) (by rw [len_ints, List.length_replicate]) (Nat.le_refl _) (cl_ints _)) .nil)) ?_
 set_option smartUnfolding false in conv => whnf
 refine vpC_sound (z := true) ?_
 set_option smartUnfolding false in conv => whnf
 refine br (fun hc => ?_) (fun hc => ?_) <;> (try rw [hc]) <;> (set_option smartUnfolding false in conv => whnf)
 ·exact h0 (by simpa using hc) _ fr0
 have hok : demCheck T (List.replicate T.length 0) = 0 := by simpa using hc
 have hto := (demCheck_ok hok).2.1
 obtain ⟨k2, hc2⟩ := cloneK_c k T hk hT
 refine vc_seq true ?_
 set_option smartUnfolding false in conv => whnf
 refine vd_pure hc2 ?_
 set_option smartUnfolding false in conv => whnf
 rw [len_tks]
 refine ⟨_, _, mk_nil (demCheck_4 hto), ?_⟩
 set_option smartUnfolding false in conv => whnf
 refine vc_seqV (vc_seq true ?_)
 set_option smartUnfolding false in conv => whnf
 refine vc_block ?_
 have h4 := demCheck_4 hto
 obtain ⟨h1', e1'⟩ : ∃ g, g = (h.new (.cells (ints (List.replicate T.length 0)) true 0)) := ⟨_, rfl⟩
 obtain ⟨h2', e2'⟩ : ∃ g, g = h1'.new (.cells (List.replicate T.length .nilp) true 0) := ⟨_, rfl⟩
 obtain ⟨h3', e3'⟩ : ∃ g, g = h2'.new (.cells [.nilp, .nilp, .fz k2 (tks T), .nils, .sl h1'.next 0 T.length T.length false] true 0) := ⟨_, rfl⟩
 have n1 : h.next ≤ h1'.next := by rw [e1']; exact Nat.le_succ _
 have n2 : h2'.next = h1'.next + 1 := by rw [e2']; rfl
 have n3 : h3'.next = h2'.next + 1 := by rw [e3']; rfl
 have gJ : h3'.get h1'.next = some (.cells (List.replicate T.length .nilp) true 0) := by rw [e3', get_new_ne (by omega), e2']; exact get_new_same
 have gr : h3'.get h2'.next = some (.cells [.nilp, .nilp, .fz k2 (tks T), .nils, .sl h1'.next 0 T.length T.length false] true 0) := by rw [e3']; exact get_new_same
 have fr3 : Fr h h3' [] := by rw [e3', e2', e1']; exact (((Fr.refl h []).new).new).new
 have hok4 : ∀ t ∈ T, 1 ≤ t.p ∧ t.p ≤ 64 := by
  rw [tasksOk, Bool.and_eq_true, List.all_eq_true] at hto
  intro t ht
  have := hto.1 t ht
  simp only [taskOk, decide_eq_true_eq] at this
  omega
 have S0 : Nw h col h3' (cadd (cadd col h.next 4) h2'.next 1) h2'.next k2 h1'.next T .nils [] :=
  ⟨by omega, by omega, cadd_new (Nat.le_refl _), gr, by omega, by rw [cadd_old (by omega), cadd_new n1], gJ, .inl ⟨rfl, rfl⟩, fun i g t hg => by simp at hg, rfl,
   ⟨fr3.next, fun c hc _ => fr3.keep c hc (by simp), fun c hc => by rw [cadd_old (by omega), cadd_old hc]⟩⟩
 subst e3'
 subst e2'
 subst e1'
 refine rmnew_l (h0 := h) (col0 := col) (k2 := k2) hok4 h4 ?_ T.length 0 _ _ _ [] _ rfl (Nat.zero_le _) rfl S0 ⟨rfl, rfl, rfl, congrArg (fun n : Nat => some (AV.int .i64 (n : Int))) (len_tks T), rfl, trivial⟩
 intro h5 col5 gv gs e5 S hgl he5
 clear S0 gr gJ n2 n3 fr3 g0 fr0 n1
 generalize ((h.new (.cells (ints (List.replicate T.length 0)) true 0)).new (.cells (List.replicate T.length .nilp) true 0)).next = r at S he5
 generalize (h.new (.cells (ints (List.replicate T.length 0)) true 0)).next = J at S
 refine vc_slots 6 _ he5 (vpC_sound (z := true) ?_)
 set_option smartUnfolding false in conv => whnf
 refine snew_c k T hk h4 fun h6 s k3 SA hs fr6 => ?_
 set_option smartUnfolding false in conv => whnf
 have S6 := S.keep (Kc.nil (col := col5) fr6 2)
 have cs : cadd col5 h5.next 2 s = 2 := cadd_new hs
 generalize cadd col5 h5.next 2 = col6 at *
 refine eff_o (sto_o S6.get rfl (yB rfl) rfl) fun h7 e7 => ?_
 set_option smartUnfolding false in conv => whnf
 rw [len_tks]
 replace e7 : h7 = h6.set r (.cells [.ptr s 0, .nilp, .fz k2 (tks T), gv, .sl J 0 T.length T.length false] true 0) := e7
 have sr : s ≠ r := by intro e; rw [e, S6.co] at cs; omega
 have G7 : h7.get r = some (.cells [.ptr s 0, .nilp, .fz k2 (tks T), gv, .sl J 0 T.length T.length false] true 0) := by rw [e7]; exact get_set_same
 have o7 : ∀ c, c ≠ r → h7.get c = h6.get c := fun c hc => by rw [e7, get_set_ne hc]
 have x7 : h7.next = h6.next := by rw [e7]; rfl
 clear e7
 refine new_o ((T.length : Nat) : Int) (fun h => by omega) fun _ _ h8 q X hq hX fr8 => ?_
 set_option smartUnfolding false in conv => whnf
 have G8 := (fr8.keep r (by rw [x7]; exact S6.lt) (by simp)).trans G7
 refine eff_o (sto_o G8 rfl (yB rfl) rfl) fun h9 e9 => ?_
 set_option smartUnfolding false in conv => whnf
 replace e9 : h9 = h8.set r (rmB s q k2 T gv (.sl J 0 T.length T.length false)) := e9
 have x9 : h9.next = h8.next := by rw [e9]; rfl
 have G9 : h9.get r = some (rmB s q k2 T gv (.sl J 0 T.length T.length false)) := by rw [e9]; exact get_set_same
 have n78 := fr8.next
 have o9 : ∀ c, c ≠ r → c < h6.next → h9.get c = h6.get c := fun c hc hl => by
  rw [e9, get_set_ne hc]
  exact (fr8.keep c (by omega) (by simp)).trans (o7 c hc)
 have cold : ∀ c, c < h6.next → cadd col6 h7.next 3 c = col6 c := fun c hc => cadd_old (by omega)
 have own6 : ∀ c, c ∈ s :: ownE 0 AV.nils → c = s := by simp [ownE]
 have rlt := S6.lt
 have jlt := S6.jl
 have slt := SA.lt
 have qown := hq.own
 refine h1 hto h9 (cadd col6 h7.next 3) r ⟨s, q, k2, J, gv, [], List.replicate T.length none, gs, ⟨h4, List.length_replicate, hgl, ⟨by omega, (cold r rlt).trans S6.co, by rw [List.length_replicate]; exact G9⟩, ⟨k3, 0, .nils, ?_, fun c hc => ?_⟩, ⟨X, ?_, fun c hc => ?_⟩, ⟨by omega, (cold J jlt).trans S6.jc, ?_⟩, fun i w hw => ?_, ?_⟩, ?_, ?_, fun y => ?_, fun i j hj => ?_⟩ ⟨?_, fun c hc _ => ?_, fun c hc => ?_⟩
 ·exact SA.keep2 (by omega) (o9 s sr slt) (fun c hc => by simp [ownE] at hc)
 ·rw [own6 c hc, cold s slt, cs]
 ·have fx : Fr h8 h9 [r] := by rw [e9]; exact (Fr.refl _ _).set (by simp)
  refine hq.keep fx fun b hb hm => ?_
  have := hX b hb
  simp at hm
  omega
 ·exact cadd_new (hX c hc)
 ·rw [o9 J (by intro e; have := S6.jc; rw [e, S6.co] at this; omega) jlt, S6.jg, List.map_replicate, List.map_replicate]
  rfl
 ·rw [List.getElem?_replicate] at hw
  split at hw <;> cases hw
 ·refine ⟨?_, fun i g t hg ht => ?_⟩
  ·rcases S6.row with ⟨h, _⟩ | ⟨G, a1, a2, a3, a4⟩
   ·exact .inl h
   ·exact .inr ⟨G, _, _, a1, by omega, (cold G a2).trans a3.2, (o9 G (by intro e; have := a3.2; rw [e, S6.co] at this; omega) a2).trans a4⟩
  ·obtain ⟨a1, a2, a3, a4⟩ := S6.all i g t hg ht
   exact ⟨a1, by omega, (cold _ a2).trans a3, (o9 _ (by intro e; rw [e, S6.co] at a3; omega) a2).trans a4⟩
 ·rw [wj, List.map_replicate]
  rfl
 ·rw [S6.z, hgl]
 ·constructor
  ·intro hy; simp at hy
  ·rintro ⟨j, hj, _⟩
   have hj : (List.replicate T.length none)[y.1]? = some (some j) := hj
   rw [List.getElem?_replicate] at hj
   split at hj <;> cases hj
 ·have hj : (List.replicate T.length none)[i]? = some (some j) := hj
  rw [List.getElem?_replicate] at hj
  split at hj <;> cases hj
 ·have := S6.kc.next; omega
 ·have := S6.kc.next
  have := S6.r0
  exact (o9 c (by omega) (by omega)).trans (S6.kc.keep c hc id)
 ·have := S6.kc.next
  exact (cold c (by omega)).trans (S6.kc.col c hc)
def ofE (T : List Tk) (js : List (Option Jb)) (t : Int) : Int := if askE T t != 0 then askE T t else match js[t.toNat]? with | some (some _) => 0 | _ => 250
theorem ofE_ask {T : List Tk} {js : List (Option Jb)} {t : Int} (h : askE T t ≠ 0) : ofE T js t = askE T t := by rw [ofE, if_pos (by simpa using h)]
theorem ofE_none {T : List Tk} {js : List (Option Jb)} {i : Nat} (hl : i < T.length) (h : js[i]? = some none) : ofE T js i = 250 := by
 have ha : askE T i = 0 := by
  rw [askE, decide_eq_false (by omega), decide_eq_false (by omega)]; rfl
 rw [ofE, ha, Int.toNat_natCast, h]; rfl
theorem ofE_some {T : List Tk} {js : List (Option Jb)} {i : Nat} {j : Jb} (hl : i < T.length) (h : js[i]? = some (some j)) : ofE T js i = 0 := by
 have ha : askE T i = 0 := by
  rw [askE, decide_eq_false (by omega), decide_eq_false (by omega)]; rfl
 rw [ofE, ha, Int.toNat_natCast, h]; rfl
section
variable {h : Heap} {col : Nat → Nat} {r s q k J : Nat} {gv : AV} {D : List Id} {ws : Ws} {gs : List (Nat × Int)} {T : List Tk} {L : List En} {st : St} {Q : AV → Heap → Prop} {t : Int}
theorem rmo_c (R : RAx h col r s q k J gv D ws gs T L) (h0 : ofE T (wj ws) t ≠ 0 → Q (.tup [.nilp, .int .i64 (ofE T (wj ws) t)]) h)
  (h1 : ∀ (i b : Nat) (j : Jb), t = ((i : Nat) : Int) → ws[i]? = some (some (b, j)) → Q (.tup [.ptr b 0, .int .i64 0]) h) : VD fs ms f_room_Room_of [.ptr r 0, .int .i64 t] h Q := by
 have hl := R.tl
 have hg := R.rcd.get
 have hj := R.jrw.get
 have e : ws.length = (ws.map (Option.map Prod.fst)).length := (List.length_map ..).symm
 rw [e] at hg
 refine rmof_c hg hj (by rw [List.length_map]; exact hl) (fun ha => ?_) (fun i hi ht hn => ?_) (fun i hi b ht hn => ?_)
 ·rw [ofE_ask ha] at h0
  exact h0 ha
 ·subst ht
  have hi' : i < ws.length := by rw [e]; exact hi
  rw [List.getElem_map] at hn
  have hw : ws[i]? = some none := by
   rw [List.getElem?_eq_getElem hi']
   cases hc : ws[i] with
   | none => rfl
   | some w => rw [hc] at hn; cases hn
  rw [ofE_none (by omega) (wj_none hw)] at h0
  exact h0 (by decide)
 ·subst ht
  have hi' : i < ws.length := by rw [e]; exact hi
  rw [List.getElem_map] at hn
  cases hc : ws[i] with
  | none => rw [hc] at hn; cases hn
  | some w =>
   rw [hc] at hn
   cases hn
   exact h1 i w.1 w.2 rfl (by rw [List.getElem?_eq_getElem hi', hc])
theorem rdead_c (R : RA h col r st) (h0 : ofE st.T st.j t ≠ 0 → Q (.tup [.int .i64 0, .bool false]) h) (h1 : ∀ (i : Nat) (j : Jb), t = ((i : Nat) : Int) → st.j[i]? = some (some j) → Q (.tup [.int .i64 j.e, .bool true]) h) :
  VD fs ms f_room_Room_Deadline [.ptr r 0, .int .i64 t] h Q := by
 obtain ⟨s, q, k, J, gv, D, ws, gs, R, e1, e2, e3, e4⟩ := R
 rw [e1] at h0 h1
 refine vd_start (af := C_room_Room_Deadline) true rfl (yB rfl) ?_
 conv => whnf
 refine rmo_c R (fun hn => ?_) (fun i b j ht hw => ?_)
 ·conv => whnf
  refine brt ((by simpa using hn)) (fun hc => ?_)
  (try rw [hc])
  conv => whnf
  exact h0 hn
 ·conv => whnf
  obtain ⟨p, C, o, v, JJ, _⟩ := R.job i _ hw
  refine jdead_c JJ ?_
  conv => whnf
  exact h1 i j ht (wj_get hw)
theorem rfault_c {now : Int} (R : RA h col r st) (h0 : ofE st.T st.j t ≠ 0 → Q (.int .i64 0) h) (h1 : ∀ (i : Nat) (j : Jb), t = ((i : Nat) : Int) → st.j[i]? = some (some j) → ∀ h', Fr h h' [] → Q (.int .i64 (jFault j now)) h') :
  VD fs ms f_room_Room_Fault [.ptr r 0, .int .i64 t, .int .i64 now] h Q := by
 obtain ⟨s, q, k, J, gv, D, ws, gs, R, e1, e2, e3, e4⟩ := R
 rw [e1] at h0 h1 e4
 refine vd_start (af := C_room_Room_Fault) true rfl (yB rfl) ?_
 conv => whnf
 refine rmo_c R (fun hn => ?_) (fun i b j ht hw => ?_)
 ·conv => whnf
  refine brt ((by simpa using hn)) (fun hc => ?_)
  (try rw [hc])
  conv => whnf
  exact h0 hn
 ·conv => whnf
  obtain ⟨p, C, o, v, JJ, _⟩ := R.job i _ hw
  have := e4 i j (wj_get hw)
  refine jfault_c JJ (by show j.l.length ≤ 64; omega) fun h' fr => ?_
  conv => whnf
  exact h1 i j ht (wj_get hw) h' fr
theorem rnext_c (R : RA h col r st) (h0 : ofE st.T st.j t ≠ 0 → ∀ h', Fr h h' [] → Q (.tup [op opZ, .bool false]) h') (h1 : ∀ (i : Nat) (j : Jb), t = ((i : Nat) : Int) → st.j[i]? = some (some j) → ∀ h', Fr h h' [] → Q (.tup [op (j.l.headD opZ), .bool (!j.l.isEmpty)]) h') :
  VD fs ms f_room_Room_Next [.ptr r 0, .int .i64 t] h Q := by
 obtain ⟨s, q, k, J, gv, D, ws, gs, R, e1, e2, e3, e4⟩ := R
 rw [e1] at h0 h1 e4
 refine vd_start (af := C_room_Room_Next) true rfl (yB rfl) ?_
 conv => whnf
 have fr1 : Fr h (h.new (.cells (op opZ).cells true 0)) [] := (Fr.refl h []).new
 refine rmo_c (R.nil fr1) (fun hn => ?_) (fun i b j ht hw => ?_)
 ·conv => whnf
  refine brt ((by simpa using hn)) (fun hc => ?_)
  (try rw [hc])
  conv => whnf
  refine eff_o (sto_o get_new_same rfl (Nat.le_refl _) rfl) fun h1 e1 => ?_
  conv => whnf
  refine opt_go (res_two rfl (loadN_some (vs := (op opZ).cells) (by rw [e1]; exact get_set_same) (Nat.le_refl _)) rfl) ?_
  conv => whnf
  exact h0 hn _ (by rw [e1]; exact fr1.setn (Nat.le_refl _))
 ·conv => whnf
  obtain ⟨p, C, o, v, JJ, _⟩ := (R.nil fr1).job i _ hw
  refine jnext_c JJ fun h2 fr2 => ?_
  conv => whnf
  have g2 : h2.get h.next = some (.cells (op opZ).cells true 0) := (fr2.keep _ (Nat.lt_succ_self _) (by simp)).trans get_new_same
  refine eff_o (sto_o g2 rfl (Nat.le_refl _) rfl) fun h3 e3 => ?_
  conv => whnf
  refine opt_go (res_two rfl (loadN_some (vs := (op (j.l.headD opZ)).cells) (by rw [e3]; exact get_set_same) (Nat.le_refl _)) rfl) ?_
  conv => whnf
  exact h1 i j ht (wj_get hw) _ (by rw [e3]; exact (fr1.trans fr2).setn (Nat.le_refl _))
end
section
variable {h : Heap} {col : Nat → Nat} {r s q k J : Nat} {gv : AV} {D : List Id} {ws : Ws} {gs : List (Nat × Int)} {T : List Tk} {L : List En} {st : St} {Q : AV → Heap → Prop} {t : Int}
theorem rsec_c {b p C o : Nat} {v : AV} {j : Jb} (J : JP h b p C o v j) (hQ : Q (.int .i64 j.s) h) : VD fs ms f_room_section [.ptr b 0] h Q := by
 refine vd_start (af := C_room_section) true rfl (yB rfl) ?_
 conv => whnf
 refine jin_c J ?_
 conv => whnf
 exact hQ
theorem rsecn_c (hQ : Q (.int .i64 0) h) : VD fs ms f_room_section [.nilp] h Q := by
 refine vd_start (af := C_room_section) true rfl (yB rfl) ?_
 conv => whnf
 refine vd_start (af := C_job_Job_In) true rfl (yB rfl) ?_
 conv => whnf
 refine vd_start (af := C_job_Job_none) true rfl (yB rfl) ?_
 conv => whnf
 exact hQ
set_option smartUnfolding true in
theorem rheld_c (R : RA h col r st) (hL : st.L.length ≤ 1000) (h0 : ofE st.T st.j t ≠ 0 → Q .nils h) (h1 : ∀ (i : Nat) (j : Jb), t = ((i : Nat) : Int) → st.j[i]? = some (some j) → ∀ h' v, IRow h.next h' v (heldL st.L t) → Fr h h' [] → Q v h') :
  VD fs ms f_room_Room_Held [.ptr r 0, .int .i64 t] h Q := by
 obtain ⟨s, q, k, J, gv, D, ws, gs, R, e1, e2, e3, e4⟩ := R
 rw [e1] at h0 h1 e4
 refine vd_start (af := C_room_Room_Held) true rfl (yB rfl) ?_
 set_option smartUnfolding false in conv => whnf
 refine rmo_c R (fun hn => ?_) (fun i b j ht hw => ?_)
 ·set_option smartUnfolding false in conv => whnf
  refine brt ((by simpa using hn)) (fun hc => ?_)
  (try rw [hc])
  set_option smartUnfolding false in conv => whnf
  exact h0 hn
 ·set_option smartUnfolding false in conv => whnf
  repeat (first | (refine ⟨_, ld1 R.rcd.get rfl, ?_⟩; set_option smartUnfolding false in conv => whnf))
  obtain ⟨k2, E, v, S, hc⟩ := R.stk
  obtain ⟨k1, hv1⟩ := S.view
  refine vd_viewN (by simp [clL, cl_stk, AV.cl]) (pl_ints _) (held_c k2 k1 st.T st.L hL t) (.cons hv1 (.cons (.clean rfl) .nil)) (fun he => ?_) ?_
  ·set_option smartUnfolding false in conv => whnf
   refine h1 i j ht (wj_get hw) _ _ (.inl ⟨?_, rfl⟩) (Fr.refl _ _)
   have := congrArg List.length he
   rw [len_ints] at this
   exact List.length_eq_zero_iff.1 this
  ·set_option smartUnfolding false in conv => whnf
   rw [len_ints, flat_ints]
   exact h1 i j ht (wj_get hw) _ _ (.inr ⟨h.next, Nat.le_refl _, Nat.lt_succ_self _, rfl, get_new_same⟩) ((Fr.refl h []).new)
theorem rjobs_c (R : RA h col r st) (h1 : ∀ h' v M, IRow h.next h' v (idl M) → (∀ y : Id, y ∈ M ↔ ∃ j, st.j[y.1]? = some (some j) ∧ y.2 = j.e) → Dst M → Srt M 0 M.length → Fr h h' [] → Q v h') :
  VD fs ms f_room_Room_Jobs [.ptr r 0] h Q := by
 obtain ⟨s, q, k, J, gv, D, ws, gs, R, e1, e2, e3, e4⟩ := R
 refine vd_start (af := C_room_Room_Jobs) true rfl (yB rfl) ?_
 conv => whnf
 refine rmnone_c R.rcd.get ?_
 conv => whnf
 repeat (first | (refine ⟨_, ld1 R.rcd.get rfl, ?_⟩; conv => whnf))
 obtain ⟨X, hq, _⟩ := R.que
 refine qjobs_o hq fun h' v M hv ho hm fr => ?_
 conv => whnf
 exact h1 h' v M hv (fun y => (ho.mem y).trans (e3 y)) ho.dst ho.srt fr
def glob (w : Option (Nat × Jb)) : Bool := match w with | some x => decide (x.2.s ≥ 2) | none => false
theorem rsole_l (R : RA h col r st) {B : Nat} {Q : AX → Env → Heap → Prop} (RX : RAx h col r s q k J gv D ws gs T L)
  (h0 : (∀ (i : Nat) w, ws[i]? = some w → glob w = false) → ∀ e, Q (.exit 0) e h) (h1 : ∀ (i b : Nat) (j : Jb) e, ws[i]? = some (some (b, j)) → 2 ≤ j.s → (∀ (m : Nat) w, m < i → ws[m]? = some w → glob w = false) → AllAt e [(2, .int .i64 (i : Nat)), (3, .int .i64 j.s), (4, .bool true)] → Q .ret e h) :
  ∀ (m i : Nat) (env : Env), ws.length - i = m → i ≤ ws.length → (∀ (n : Nat) w, n < i → ws[n]? = some w → glob w = false) → AllAt env [(13, .sl J 0 ws.length ws.length false), (14, .int .i64 ((ws.length : Nat) : Int)), (15, .int .i64 ((i : Nat) : Int))] →
   VC fs ms B false (.loop L_room_Room_Sole_0) env h Q := by
 have hn4 := RX.n4
 have htl := RX.tl
 intro m
 induction m using Nat.strongRecOn with
 | ind m ih =>
 intro i env hm hi hno henv
 refine vc_slots 5 _ henv ?_
 refine vc_loop (z := true) ?_
 conv => whnf
 refine br (fun hc => ?_) (fun hc => ?_) <;> (try rw [hc]) <;> (conv => whnf)
 ·have hlt : i < ws.length := by have := of_decide_eq_true hc; omega
  refine ⟨_, idx_slS3 hlt, ?_⟩
  conv => whnf
  have hg : ((ws.map (Option.map Prod.fst)).map jcl)[i * 1]? = some (wcl ws[i]) := by
   rw [Nat.mul_one, List.getElem?_map, List.getElem?_map, List.getElem?_eq_getElem hlt]; rfl
  refine ⟨_, ld1 RX.jrw.get hg, ?_⟩
  have hwi : ws[i]? = some ws[i] := List.getElem?_eq_getElem hlt
  have next : glob ws[i] = false → ∀ (n : Nat) w, n < i + 1 → ws[n]? = some w → glob w = false := by
   intro hf n w hn hw
   by_cases e : n = i
   ·subst e; rw [hwi] at hw; cases hw; exact hf
   ·exact hno n w (by omega) hw
  cases hc : ws[i] with
  | none =>
   rw [hc] at next
   conv => whnf
   refine rsecn_c ?_
   conv => whnf
   exact ih (ws.length - (i + 1)) (by omega) (i + 1) _ rfl (by omega) (next rfl) ⟨rfl, rfl, inc_slot (by omega), trivial⟩
  | some w =>
   rw [hc] at next hwi
   obtain ⟨b, j⟩ := w
   obtain ⟨p, C, o, v, JJ, _⟩ := RX.job i _ hwi
   conv => whnf
   refine rsec_c JJ ?_
   conv => whnf
   refine br (fun hc => ?_) (fun hc => ?_) <;> (try rw [hc]) <;> (conv => whnf)
   ·exact h1 i b j _ hwi (of_decide_eq_true hc) hno ⟨rfl, rfl, rfl, trivial⟩
   ·exact ih (ws.length - (i + 1)) (by omega) (i + 1) _ rfl (by omega) (next hc) ⟨rfl, rfl, inc_slot (by omega), trivial⟩
 ·have hge : i = ws.length := by have := of_decide_eq_false hc; omega
  refine h0 (fun n w hn => hno n w ?_ hn) _
  have := (List.getElem?_eq_some_iff.1 hn).1
  omega
theorem glob_lt {ws : Ws} {i : Nat} {j : Jb} (h : ∀ w, ws[i]? = some w → glob w = false) (hj : (wj ws)[i]? = some (some j)) : j.s < 2 := by
 obtain ⟨b, hb⟩ := wj_some hj
 have := h _ hb
 have := of_decide_eq_false (show decide (j.s ≥ 2) = false from this)
 omega
set_option smartUnfolding true in
theorem endV_three {a b c : Nat} {u v w : AV} {e : Env} {h : Heap} {Q : AV → Heap → Prop} (h1 : Tr.get e a = some u) (h2 : Tr.get e b = some v) (h3 : Tr.get e c = some w) (hq : Q (.tup [u, v, w]) h) : endV [.tmp a, .tmp b, .tmp c] Q .ret e h := by
 simp only [endV, resAllV, resOfV, h1, h2, h3]
 exact hq
theorem rsole_c (R : RA h col r st) (h0 : (∀ (i : Nat) (j : Jb), st.j[i]? = some (some j) → j.s < 2) → Q (.tup [.int .i64 0, .int .i64 0, .bool false]) h)
  (h1 : ∀ (i : Nat) (j : Jb), st.j[i]? = some (some j) → 2 ≤ j.s → (∀ (m : Nat) (j' : Jb), m < i → st.j[m]? = some (some j') → j'.s < 2) → Q (.tup [.int .i64 ((i : Nat) : Int), .int .i64 j.s, .bool true]) h) : VD fs ms f_room_Room_Sole [.ptr r 0] h Q := by
 have R0 := R
 obtain ⟨s, q, k, J, gv, D, ws, gs, R, e1, e2, e3, e4⟩ := R
 rw [e1] at h0 h1
 refine vd_begin (af := C_room_Room_Sole) rfl (yB rfl) ?_
 conv => whnf
 refine vc_seq true ?_
 conv => whnf
 refine vc_seqV (vc_seq true ?_)
 conv => whnf
 refine rmnone_c R.rcd.get ?_
 conv => whnf
 refine vpC_sound (z := true) ?_
 conv => whnf
 refine vc_seqV (vc_seq true ?_)
 conv => whnf
 repeat (first | (refine ⟨_, ld1 R.rcd.get rfl, ?_⟩; conv => whnf))
 refine vc_block ?_
 refine rsole_l R0 R ?_ ?_ ws.length 0 _ rfl (Nat.zero_le _) (fun n w hn => by omega) ⟨rfl, rfl, rfl, trivial⟩
 ·intro hno e
  refine vc_slots 0 [] trivial (vpC_sound (z := true) ?_)
  conv => whnf
  exact h0 fun i j hj => glob_lt (hno i) hj
 ·intro i b j e hw hs hno he
  exact endV_three he.1 he.2.1 he.2.2.1 (h1 i j (wj_get hw) hs fun m j' hm hj => glob_lt (fun w => hno m w hm) hj)
theorem RK10 (i : Nat) (hi : i < 4) : RK (10 + i) := ⟨by omega, by omega⟩
theorem rwith_c {F : AV} (R : RAx h col r s q k J gv D ws gs T L) (h0 : ofE T (wj ws) t ≠ 0 → Q (.int .i64 (ofE T (wj ws) t)) h)
  (h1 : ∀ (i b : Nat) (j : Jb), t = ((i : Nat) : Int) → ws[i]? = some (some (b, j)) → ∃ f capt, F = .func (.func f) [] capt ∧ VD fs ms f ([.ptr b 0] ++ capt) h Q) : VD fs ms f_room_Room_with [.ptr r 0, .int .i64 t, F] h Q := by
 refine vd_start (af := C_room_Room_with) true rfl (yB rfl) ?_
 conv => whnf
 refine rmo_c R (fun hn => ?_) (fun i b j ht hw => ?_)
 ·conv => whnf
  refine brt ((by simpa using hn)) (fun hc => ?_)
  (try rw [hc])
  conv => whnf
  exact h0 hn
 ·obtain ⟨f, capt, rfl, hv⟩ := h1 i b j ht hw
  conv => whnf
  refine VD.mono hv fun v h' hq => ?_
  conv => whnf
  exact hq
theorem len_did (l : List Op) : (didL l).length ≤ l.length := by
 rw [didL]
 split
 ·exact Nat.le_refl _
 ·rw [List.length_tail]; omega
theorem len_ran (l : List Op) : (ranL l).length ≤ l.length := by
 cases l with
 | nil => exact Nat.le_refl _
 | cons x l =>
  rw [ranL]
  split
  ·split <;> simp
  ·exact Nat.le_refl _
theorem len_run (j : Jb) : (jRun j).l.length ≤ j.l.length := by
 rw [jRun]
 split
 ·exact len_ran _
 ·exact Nat.le_refl _
theorem dl_run (j : Jb) : (jRun j).e = j.e := by
 rw [jRun]
 split <;> rfl
theorem rmrun_c (R : RA h col r st) (h0 : ofE st.T st.j t ≠ 0 → Q (.int .i64 (ofE st.T st.j t)) h)
  (h1 : ∀ (i : Nat) (j : Jb), t = ((i : Nat) : Int) → st.j[i]? = some (some j) → ∀ h' col', RA h' col' r { st with j := st.j.set i (some (jRun j)) } → Kc h h' col col' RK → Q (.int .i64 (jRunE j)) h') : VD fs ms f_room_Room_Run [.ptr r 0, .int .i64 t] h Q := by
 obtain ⟨s, q, k, J, gv, D, ws, gs, R, e1, e2, e3, e4⟩ := R
 rw [e1] at h0
 refine vd_start (af := C_room_Room_Run) true rfl (yB rfl) ?_
 conv => whnf
 refine rwith_c R (fun hn => ?_) (fun i b j ht hw => ⟨f_job_Job_Run, [], rfl, ?_⟩)
 ·conv => whnf
  exact h0 hn
 ·obtain ⟨p, C, o, v, JJ, hC, c1, c2, c3⟩ := R.job i _ hw
  have hj : st.j[i]? = some (some j) := by rw [e1]; exact wj_get hw
  refine jrun_c JJ fun h' v' o' JJ' fr => ?_
  conv => whnf
  have f : Kc h h' col (cadd col h.next (10 + i)) (· = 10 + i) := Kc.of fr (by intro c hc _; simp at hc; rcases hc with rfl | rfl | rfl <;> assumption)
  have hp := JJ.rw.lt
  have hb := JJ.lt
  refine h1 i j ht hj h' _ (RA.job' R e1 e2 e3 e4 hw f ⟨p, C, o', v', JJ', Nat.lt_of_lt_of_le hC f.next, by rw [f.col b hb, c1], by rw [f.col p hp, c2], by rw [f.col C hC, c3]⟩ (dl_run j) ?_) (f.wk fun n hn => by subst hn; exact RK10 i (R.len hw))
  have := e4 i j hj
  have := len_run j
  omega
theorem rmdid_c (R : RA h col r st) (h0 : ofE st.T st.j t ≠ 0 → Q (.int .i64 (ofE st.T st.j t)) h)
  (h1 : ∀ (i : Nat) (j : Jb), t = ((i : Nat) : Int) → st.j[i]? = some (some j) → ∀ h' col', RA h' col' r { st with j := st.j.set i (some (jDid j)) } → Kc h h' col col' RK → Q (.int .i64 (jDidE j)) h') : VD fs ms f_room_Room_Did [.ptr r 0, .int .i64 t] h Q := by
 obtain ⟨s, q, k, J, gv, D, ws, gs, R, e1, e2, e3, e4⟩ := R
 rw [e1] at h0
 refine vd_start (af := C_room_Room_Did) true rfl (yB rfl) ?_
 conv => whnf
 refine rwith_c R (fun hn => ?_) (fun i b j ht hw => ⟨f_job_Job_Did, [], rfl, ?_⟩)
 ·conv => whnf
  exact h0 hn
 ·obtain ⟨p, C, o, v, JJ, hC, c1, c2, c3⟩ := R.job i _ hw
  have hj : st.j[i]? = some (some j) := by rw [e1]; exact wj_get hw
  refine jdid_c JJ fun h' v' o' JJ' fr => ?_
  conv => whnf
  have f : Kc h h' col (cadd col h.next (10 + i)) (· = 10 + i) := Kc.of fr (by intro c hc _; simp at hc; rcases hc with rfl | rfl <;> assumption)
  have hp := JJ.rw.lt
  have hb := JJ.lt
  refine h1 i j ht hj h' _ (RA.job' R e1 e2 e3 e4 hw f ⟨p, C, o', v', JJ', Nat.lt_of_lt_of_le hC f.next, by rw [f.col b hb, c1], by rw [f.col p hp, c2], by rw [f.col C hC, c3]⟩ rfl ?_) (f.wk fun n hn => by subst hn; exact RK10 i (R.len hw))
  have := e4 i j hj
  have := len_did j.l
  show (didL j.l).length ≤ 32
  omega
end
def jLk (j : Jb) : Jb := if j.s == 0 then { j with s := 1, k := 0 } else j
theorem jLk_ent {j : Jb} (h : j.s = 0) : jEntE j 1 = 0 ∧ jEnt j 1 = jLk j := by
 have e : jEntE j 1 = 0 := by simp [jEntE, h]
 refine ⟨e, ?_⟩
 rw [jEnt, e, jLk, h]
 rfl
theorem set_self {α : Type} {l : List α} {i : Nat} {x : α} (h : l[i]? = some x) : l.set i x = l := by
 apply List.ext_getElem?
 intro n
 rw [List.getElem?_set]
 by_cases e : i = n
 ·subst e
  rw [if_pos rfl, if_pos (List.getElem?_eq_some_iff.1 h).1, h]
 ·rw [if_neg e]
theorem stk_of {h h' : Heap} {col : Nat → Nat} {s E E' k : Nat} {v v' : AV} {T : List Tk} {L' : List En} {bs : List Nat} (hs : s < h.next) (hc : ∀ c, c ∈ s :: ownE E v → col c = 2) (S : StA h' s E' v' k T L') (fr : Fr h h' bs) (hb : ∀ c, c ∈ bs → c ∈ s :: ownE E v)
  (hE : ∀ c, c ∈ ownE E' v' → (c ∈ ownE E v ∧ c < h.next) ∨ h.next ≤ c) : Kc h h' col (cadd col h.next 2) (· = 2) ∧ Stk h' (cadd col h.next 2) s k T L' := by
 refine ⟨Kc.of fr fun c h1 _ => hc c (hb c h1), E', v', S, fun c h1 => ?_⟩
 rcases List.mem_cons.1 h1 with rfl | h2
 ·rw [cadd_old hs]
  exact hc _ (by simp)
 ·rcases hE c h2 with ⟨h3, h4⟩ | h3
  ·rw [cadd_old h4]
   exact hc c (by simp [h3])
  ·exact cadd_new h3
section
variable {h : Heap} {col : Nat → Nat} {r s q k J : Nat} {gv : AV} {D : List Id} {ws : Ws} {gs : List (Nat × Int)} {T : List Tk} {L : List En} {st : St} {Q : AV → Heap → Prop} {t : Int}
theorem lk1_c {x : Int} {b1 b2 b3 i b : Nat} {j : Jb} (g1 : h.get b1 = some (.cells [.ptr r 0] true 0)) (g2 : h.get b2 = some (.cells [.int .i64 t] true 0)) (g3 : h.get b3 = some (.cells [.int .i64 x] true 0))
  (R : RAx h col r s q k J gv D ws gs st.T st.L) (e1 : st.j = wj ws) (e2 : st.g = gs.map Prod.snd) (e3 : ∀ y : Id, y ∈ D ↔ ∃ j, st.j[y.1]? = some (some j) ∧ y.2 = j.e) (e4 : ∀ (i : Nat) (j : Jb), st.j[i]? = some (some j) → j.l.length ≤ 32) (hw : ws[i]? = some (some (b, j))) (hL : st.L.length ≤ 900)
  (h1 : j.s ≥ 2 → Q (.int .i64 130) h) (h2 : j.s < 2 → lockE st.T st.L t x ≠ 0 → ∀ h', Fr h h' [] → Q (.int .i64 (lockE st.T st.L t x)) h')
  (h3 : j.s < 2 → lockE st.T st.L t x = 0 → ∀ h' col', RA h' col' r { st with L := st.L ++ [(t, x)], j := st.j.set i (some (jLk j)) } → Kc h h' col col' RK → Q (.int .i64 0) h') :
  VD fs ms f_room_Room_Lock_1 [.ptr b 0, .ptr b1 0, .ptr b2 0, .ptr b3 0] h Q := by
 have hj : st.j[i]? = some (some j) := by rw [e1]; exact wj_get hw
 have hn4 := R.n4
 refine vd_start (af := C_room_Room_Lock_1) true rfl (yB rfl) ?_
 conv => whnf
 obtain ⟨p, C, o, v, JJ, hC, c1, c2, c3⟩ := R.job i _ hw
 refine rsec_c JJ ?_
 conv => whnf
 refine br (fun hc => ?_) (fun hc => ?_) <;> (try rw [hc]) <;> (conv => whnf)
 ·exact h1 (of_decide_eq_true hc)
 have hs2 : j.s < 2 := Int.not_le.1 (of_decide_eq_false hc)
 repeat (first | (refine ⟨_, ld1 g1 rfl, ?_⟩; conv => whnf) | (refine ⟨_, ld1 g2 rfl, ?_⟩; conv => whnf) | (refine ⟨_, ld1 g3 rfl, ?_⟩; conv => whnf) | (refine ⟨_, ld1 R.rcd.get rfl, ?_⟩; conv => whnf))
 obtain ⟨k2, E, v2, S, hcs⟩ := R.stk
 refine slock_c S (by omega) hL (fun hl h' S' fr => ?_) (fun hl h' E' v' S' fr hE hE2 => ?_)
 ·conv => whnf
  refine brf ((by simpa using hl)) (fun hc => ?_)
  (try rw [hc])
  conv => whnf
  exact h2 hs2 hl _ fr
 ·conv => whnf
  obtain ⟨f2, S2⟩ := stk_of S.lt hcs S' fr (fun c h => h) (fun c hc => .inr (by rw [own_eq hc]; exact hE))
  have R2 := R.stk' f2 S2
  have f3 := f2.wk (K' := RK) fun n hn => by subst hn; exact ⟨by omega, by omega⟩
  obtain ⟨p, C, o, v, JJ, hC, c1, c2, c3⟩ := R2.job i _ hw
  refine rsec_c JJ ?_
  conv => whnf
  refine br (fun hc => ?_) (fun hc => ?_) <;> (try rw [hc]) <;> (conv => whnf)
  ·obtain ⟨q1, q2⟩ := jLk_ent (j := j) (eq_of_beq hc)
   refine jent_c JJ fun h4 J4 fr4 => ?_
   conv => whnf
   have f5 : Kc h' h4 (cadd col h.next 2) (cadd (cadd col h.next 2) h'.next (10 + i)) (· = 10 + i) := Kc.of fr4 (by intro c hc _; simp at hc; rcases hc with rfl; exact c1)
   have hp := JJ.rw.lt
   have hb := JJ.lt
   have JB : Jbc h4 (cadd (cadd col h.next 2) h'.next (10 + i)) i b (jLk j) := by
    have J5 : JP h4 b p C o v (jLk j) := by rw [← q2]; exact J4
    exact ⟨p, C, o, v, J5, Nat.lt_of_lt_of_le hC f5.next, by rw [f5.col b hb, c1], by rw [f5.col p hp, c2], by rw [f5.col C hC, c3]⟩
   have hq := h3 hs2 hl _ _ (RA.job' (st := { st with L := st.L ++ [(t, x)] }) R2 e1 e2 e3 e4 hw f5 JB (by rw [jLk]; split <;> rfl) (by have := e4 i j hj; rw [jLk]; split <;> exact this)) (f3.trans (f5.wk fun n hn => by subst hn; exact RK10 i (R.len hw)))
   rw [← q1] at hq
   exact hq
  ·have e : jLk j = j := by rw [jLk]; exact if_neg (by rw [hc]; simp)
   refine h3 hs2 hl _ _ ⟨s, q, k, J, gv, D, ws, gs, R2, ?_, e2, fun y => ?_, fun n jn hn => ?_⟩ f3
   ·show st.j.set i (some (jLk j)) = _
    rw [e, ← e1]
    exact set_self hj
   ·show _ ↔ ∃ j', (st.j.set i (some (jLk j)))[y.1]? = some (some j') ∧ _
    rw [e, set_self hj]
    exact e3 y
   ·have hn : (st.j.set i (some (jLk j)))[n]? = some (some jn) := hn
    rw [e, set_self hj] at hn
    exact e4 n jn hn
theorem rmlock_c {x : Int} (R : RA h col r st) (hL : st.L.length ≤ 900) (h0 : ofE st.T st.j t ≠ 0 → ∀ h', Fr h h' [] → Q (.int .i64 (ofE st.T st.j t)) h')
  (h1 : ∀ (i : Nat) (j : Jb), t = ((i : Nat) : Int) → st.j[i]? = some (some j) → j.s ≥ 2 → ∀ h', Fr h h' [] → Q (.int .i64 130) h')
  (h2 : ∀ (i : Nat) (j : Jb), t = ((i : Nat) : Int) → st.j[i]? = some (some j) → j.s < 2 → lockE st.T st.L t x ≠ 0 → ∀ h', Fr h h' [] → Q (.int .i64 (lockE st.T st.L t x)) h')
  (h3 : ∀ (i : Nat) (j : Jb), t = ((i : Nat) : Int) → st.j[i]? = some (some j) → j.s < 2 → lockE st.T st.L t x = 0 → ∀ h' col', RA h' col' r { st with L := st.L ++ [(t, x)], j := st.j.set i (some (jLk j)) } → Kc h h' col col' RK → Q (.int .i64 0) h') :
  VD fs ms f_room_Room_Lock [.ptr r 0, .int .i64 t, .int .i64 x] h Q := by
 obtain ⟨s, q, k, J, gv, D, ws, gs, R, e1, e2, e3, e4⟩ := R
 have hj : ∀ {i b : Nat} {j : Jb}, ws[i]? = some (some (b, j)) → st.j[i]? = some (some j) := fun h => by rw [e1]; exact wj_get h
 refine vd_start (af := C_room_Room_Lock) true rfl (yB rfl) ?_
 obtain ⟨H1, E1⟩ : ∃ g, g = h.new (.cells [.ptr r 0] true 0) := ⟨_, rfl⟩
 obtain ⟨H2, E2⟩ : ∃ g, g = H1.new (.cells [.int .i64 t] true 0) := ⟨_, rfl⟩
 obtain ⟨H3, E3⟩ : ∃ g, g = H2.new (.cells [.int .i64 x] true 0) := ⟨_, rfl⟩
 have n1 : H1.next = h.next + 1 := by rw [E1]; rfl
 have n2 : H2.next = h.next + 2 := by rw [E2]; show H1.next + 1 = _; omega
 have n3 : H3.next = h.next + 3 := by rw [E3]; show H2.next + 1 = _; omega
 have g1 : H3.get h.next = some (.cells [.ptr r 0] true 0) := by rw [E3, get_new_ne (by omega), E2, get_new_ne (by omega), E1]; exact get_new_same
 have g2 : H3.get H1.next = some (.cells [.int .i64 t] true 0) := by rw [E3, get_new_ne (by omega), E2]; exact get_new_same
 have g3 : H3.get H2.next = some (.cells [.int .i64 x] true 0) := by rw [E3]; exact get_new_same
 have fr3 : Fr h H3 [] := by rw [E3, E2, E1]; exact (((Fr.refl h []).new).new).new
 subst E3
 subst E2
 subst E1
 conv => whnf
 repeat (first | (refine ⟨_, ld1 g1 rfl, ?_⟩; conv => whnf) | (refine ⟨_, ld1 g2 rfl, ?_⟩; conv => whnf))
 refine rwith_c (R.nil fr3) (fun hn => ?_) (fun i b j ht hw => ⟨f_room_Room_Lock_1, _, rfl, ?_⟩)
 ·conv => whnf
  rw [e1] at h0
  exact h0 hn _ fr3
 ·refine lk1_c g1 g2 g3 (R.nil fr3) e1 e2 e3 e4 hw hL (fun hs => ?_) (fun hs hl h' fr => ?_) (fun hs hl h' col' R' f => ?_)
  ·conv => whnf
   exact h1 i j ht (hj hw) hs _ fr3
  ·conv => whnf
   exact h2 i j ht (hj hw) hs hl _ (fr3.trans fr)
  ·conv => whnf
   exact h3 i j ht (hj hw) hs hl _ _ R' ((Kc.same fr3).trans f)
end
def jUnl (L : List En) (t : Int) (j : Jb) : Jb := if (heldL L t).isEmpty then jLea j else j
theorem jLea_e (j : Jb) : (jLea j).e = j.e ∧ (jLea j).l = j.l := by rw [jLea]; split <;> exact ⟨rfl, rfl⟩
section
variable {h : Heap} {col : Nat → Nat} {r s q k J : Nat} {gv : AV} {D : List Id} {ws : Ws} {gs : List (Nat × Int)} {T : List Tk} {L : List En} {st : St} {Q : AV → Heap → Prop} {t : Int}
theorem lea_of {i b : Nat} {j : Jb} (R : RAx h col r s q k J gv D ws gs st.T st.L) (e1 : st.j = wj ws) (e2 : st.g = gs.map Prod.snd) (e3 : ∀ y : Id, y ∈ D ↔ ∃ j, st.j[y.1]? = some (some j) ∧ y.2 = j.e) (e4 : ∀ (i : Nat) (j : Jb), st.j[i]? = some (some j) → j.l.length ≤ 32) (hw : ws[i]? = some (some (b, j)))
  (hQ : ∀ v h' col', RA h' col' r { st with j := st.j.set i (some (jLea j)) } → Kc h h' col col' RK → Q v h') : VD fs ms f_job_Job_Leave [.ptr b 0] h Q := by
 obtain ⟨p, C, o, v, JJ, hC, c1, c2, c3⟩ := R.job i _ hw
 refine jlea_c JJ fun h4 J4 fr4 => ?_
 have f5 : Kc h h4 col (cadd col h.next (10 + i)) (· = 10 + i) := Kc.of fr4 (by intro c hc _; simp at hc; rcases hc with rfl; exact c1)
 have hp := JJ.rw.lt
 have hb := JJ.lt
 obtain ⟨l1, l2⟩ := jLea_e j
 exact hQ _ h4 _ (RA.job' R e1 e2 e3 e4 hw f5 ⟨p, C, o, v, J4, Nat.lt_of_lt_of_le hC f5.next, by rw [f5.col b hb, c1], by rw [f5.col p hp, c2], by rw [f5.col C hC, c3]⟩ l1 (by rw [l2]; exact e4 i j (by rw [e1]; exact wj_get hw))) (f5.wk fun n hn => by subst hn; exact RK10 i (R.len hw))
set_option smartUnfolding true in
theorem ulk1_c {b1 b2 i b : Nat} {j : Jb} (g1 : h.get b1 = some (.cells [.ptr r 0] true 0)) (g2 : h.get b2 = some (.cells [.int .i64 t] true 0)) (n1 : b1 < h.next ∧ b1 ≠ s) (n2 : b2 < h.next ∧ b2 ≠ s)
  (R : RAx h col r s q k J gv D ws gs st.T st.L) (e1 : st.j = wj ws) (e2 : st.g = gs.map Prod.snd) (e3 : ∀ y : Id, y ∈ D ↔ ∃ j, st.j[y.1]? = some (some j) ∧ y.2 = j.e) (e4 : ∀ (i : Nat) (j : Jb), st.j[i]? = some (some j) → j.l.length ≤ 32) (hw : ws[i]? = some (some (b, j))) (hL : st.L.length ≤ 900)
  (h1 : unlE st.T st.L t ≠ 0 → ∀ h', Fr h h' [] → Q (.int .i64 (unlE st.T st.L t)) h')
  (h2 : unlE st.T st.L t = 0 → ∀ n : Nat, n < st.L.length → lastI st.L t = ((n : Nat) : Int) → ∀ h' col', RA h' col' r { st with L := st.L.eraseIdx n, j := st.j.set i (some (jUnl (st.L.eraseIdx n) t j)) } → Kc h h' col col' RK → Q (.int .i64 0) h') :
  VD fs ms f_room_Room_Unlock_1 [.ptr b 0, .ptr b1 0, .ptr b2 0] h Q := by
 have hj : st.j[i]? = some (some j) := by rw [e1]; exact wj_get hw
 have hn4 := R.n4
 refine vd_start (af := C_room_Room_Unlock_1) true rfl (yB rfl) ?_
 set_option smartUnfolding false in conv => whnf
 repeat (first | (refine ⟨_, ld1 g1 rfl, ?_⟩; set_option smartUnfolding false in conv => whnf) | (refine ⟨_, ld1 g2 rfl, ?_⟩; set_option smartUnfolding false in conv => whnf) | (refine ⟨_, ld1 R.rcd.get rfl, ?_⟩; set_option smartUnfolding false in conv => whnf))
 obtain ⟨k2, E, v2, S, hcs⟩ := R.stk
 refine sunlock_c S hL (fun hu h' S' fr => ?_) (fun hu n hn hla h' E' v' S' fr hE hv' => ?_)
 ·set_option smartUnfolding false in conv => whnf
  refine brt ((by simpa using hu)) (fun hc => ?_)
  (try rw [hc])
  set_option smartUnfolding false in conv => whnf
  exact h1 hu _ fr
 ·set_option smartUnfolding false in conv => whnf
  obtain ⟨f2, S2⟩ := stk_of S.lt hcs S' fr (fun c h => by simp at h; simp [h]) (fun c hc => by
   rw [own_eq hc]
   rcases hE with h | h
   ·exact .inl ⟨h, own_lt S.en h⟩
   ·exact .inr h)
  have R2 := R.stk' f2 S2
  have f3 := f2.wk (K' := RK) fun n hn => by subst hn; exact ⟨by omega, by omega⟩
  have g1' := (fr.keep b1 n1.1 (by simpa using n1.2)).trans g1
  have g2' := (fr.keep b2 n2.1 (by simpa using n2.2)).trans g2
  repeat (first | (refine ⟨_, ld1 g1' rfl, ?_⟩; set_option smartUnfolding false in conv => whnf) | (refine ⟨_, ld1 g2' rfl, ?_⟩; set_option smartUnfolding false in conv => whnf) | (refine ⟨_, ld1 R2.rcd.get rfl, ?_⟩; set_option smartUnfolding false in conv => whnf))
  obtain ⟨k1, hv1⟩ := S'.view
  have hq := h2 hu n hn hla
  have hL' : (st.L.eraseIdx n).length ≤ 1000 := by rw [List.length_eraseIdx]; split <;> omega
  generalize st.L.eraseIdx n = L' at *
  have lv : heldL L' t = [] → jUnl L' t j = jLea j := fun hz => by rw [jUnl, hz]; rfl
  have nl : heldL L' t ≠ [] → jUnl L' t j = j := fun hz => by
   rw [jUnl, if_neg]
   cases hh : heldL L' t with
   | nil => exact absurd hh hz
   | cons x l => simp
  refine vd_viewN (by simp [clL, cl_stk, AV.cl]) (pl_ints _) (held_c k2 k1 st.T L' hL' t) (.cons hv1 (.cons (.clean rfl) .nil)) (fun he => ?_) ?_
  ·have hz : heldL L' t = [] := by
    have := congrArg List.length he
    rw [len_ints] at this
    exact List.length_eq_zero_iff.1 this
   rw [lv hz] at hq
   set_option smartUnfolding false in conv => whnf
   refine lea_of (st := { st with L := L' }) R2 e1 e2 e3 e4 hw fun v h4 col4 R4 f4 => ?_
   set_option smartUnfolding false in conv => whnf
   exact hq h4 col4 R4 (f3.trans f4)
  ·have fr5 : Fr h' (h'.new (.cells (flatCells (ints (heldL L' t))) true 1)) [] := (Fr.refl h' []).new
   set_option smartUnfolding false in conv => whnf
   rw [len_ints]
   refine br (fun hc => ?_) (fun hc => ?_) <;> (try rw [hc]) <;> (set_option smartUnfolding false in conv => whnf)
   ·have hz : heldL L' t = [] := by
     have hc := eq_of_beq hc
     exact List.length_eq_zero_iff.1 (by omega)
    rw [lv hz] at hq
    refine lea_of (st := { st with L := L' }) (R2.nil fr5) e1 e2 e3 e4 hw fun v h4 col4 R4 f4 => ?_
    set_option smartUnfolding false in conv => whnf
    exact hq h4 col4 R4 (f3.trans ((Kc.same fr5).trans f4))
   ·have hz : heldL L' t ≠ [] := by
     intro hz
     rw [hz] at hc
     exact absurd hc (by decide)
    rw [nl hz] at hq
    have R5 := R2.nil fr5
    refine hq _ _ ⟨s, q, k, J, gv, D, ws, gs, R5, ?_, e2, fun y => ?_, fun n jn hn => ?_⟩ (f3.trans (Kc.same fr5))
    ·show st.j.set i (some j) = _
     rw [set_self hj, ← e1]
    ·show _ ↔ ∃ j', (st.j.set i (some j))[y.1]? = some (some j') ∧ _
     rw [set_self hj]
     exact e3 y
    ·have hn : (st.j.set i (some j))[n]? = some (some jn) := hn
     rw [set_self hj] at hn
     exact e4 n jn hn
theorem rmunlock_c (R : RA h col r st) (hL : st.L.length ≤ 900) (h0 : ofE st.T st.j t ≠ 0 → ∀ h', Fr h h' [] → Q (.int .i64 (ofE st.T st.j t)) h')
  (h1 : ∀ (i : Nat) (j : Jb), t = ((i : Nat) : Int) → st.j[i]? = some (some j) → unlE st.T st.L t ≠ 0 → ∀ h', Fr h h' [] → Q (.int .i64 (unlE st.T st.L t)) h')
  (h2 : ∀ (i : Nat) (j : Jb), t = ((i : Nat) : Int) → st.j[i]? = some (some j) → unlE st.T st.L t = 0 → ∀ n : Nat, n < st.L.length → lastI st.L t = ((n : Nat) : Int) → ∀ h' col', RA h' col' r { st with L := st.L.eraseIdx n, j := st.j.set i (some (jUnl (st.L.eraseIdx n) t j)) } → Kc h h' col col' RK → Q (.int .i64 0) h') :
  VD fs ms f_room_Room_Unlock [.ptr r 0, .int .i64 t] h Q := by
 obtain ⟨s, q, k, J, gv, D, ws, gs, R, e1, e2, e3, e4⟩ := R
 have hj : ∀ {i b : Nat} {j : Jb}, ws[i]? = some (some (b, j)) → st.j[i]? = some (some j) := fun h => by rw [e1]; exact wj_get h
 refine vd_start (af := C_room_Room_Unlock) true rfl (yB rfl) ?_
 obtain ⟨H1, E1⟩ : ∃ g, g = h.new (.cells [.ptr r 0] true 0) := ⟨_, rfl⟩
 obtain ⟨H2, E2⟩ : ∃ g, g = H1.new (.cells [.int .i64 t] true 0) := ⟨_, rfl⟩
 have n1 : H1.next = h.next + 1 := by rw [E1]; rfl
 have n2 : H2.next = h.next + 2 := by rw [E2]; show H1.next + 1 = _; omega
 have g1 : H2.get h.next = some (.cells [.ptr r 0] true 0) := by rw [E2, get_new_ne (by omega), E1]; exact get_new_same
 have g2 : H2.get H1.next = some (.cells [.int .i64 t] true 0) := by rw [E2]; exact get_new_same
 have fr3 : Fr h H2 [] := by rw [E2, E1]; exact ((Fr.refl h []).new).new
 have hs : s < h.next := by obtain ⟨k2, E, v2, S, hcs⟩ := R.stk; exact S.lt
 have m1 : h.next < H2.next ∧ h.next ≠ s := ⟨by omega, by omega⟩
 have m2 : H1.next < H2.next ∧ H1.next ≠ s := ⟨by omega, by omega⟩
 subst E2
 subst E1
 conv => whnf
 repeat (first | (refine ⟨_, ld1 g1 rfl, ?_⟩; conv => whnf) | (refine ⟨_, ld1 g2 rfl, ?_⟩; conv => whnf))
 refine rwith_c (R.nil fr3) (fun hn => ?_) (fun i b j ht hw => ⟨f_room_Room_Unlock_1, _, rfl, ?_⟩)
 ·conv => whnf
  rw [e1] at h0
  exact h0 hn _ fr3
 ·refine ulk1_c g1 g2 m1 m2 (R.nil fr3) e1 e2 e3 e4 hw hL (fun hu h' fr => ?_) (fun hu n hn hla h' col' R' f => ?_)
  ·conv => whnf
   exact h1 i j ht (hj hw) hu _ (fr3.trans fr)
  ·conv => whnf
   exact h2 i j ht (hj hw) hu n hn hla _ _ R' ((Kc.same fr3).trans f)
end
section
variable {h h' : Heap} {col col' : Nat → Nat} {r s q k J : Nat} {gv : AV} {D : List Id} {ws : Ws} {gs : List (Nat × Int)} {T : List Tk} {L : List En} {st : St} {Q : AV → Heap → Prop} {t : Int}
theorem que_of {S S' : List Nat} {n : Int} {D D' : List Id} (hq : QAt h q S n D) (hc : ∀ c, c ∈ S → col c = 3) (hq' : QAt h' q S' n D') (ow : Own h h' S S') : Kc h h' col (cadd col h.next 3) (· = 3) ∧ Que h' (cadd col h.next 3) q n D' := by
 refine ⟨Kc.of ow.fr fun c h1 _ => hc c h1, S', hq', fun c h1 => ?_⟩
 rcases ow.new c h1 with h2 | h2
 ·rw [cadd_old (hq.own c h2)]
  exact hc c h2
 ·exact cadd_new h2
theorem ws_cells {i : Nat} {w : Option (Nat × Jb)} (hi : i < ws.length) : Heap.splice ((ws.map (Option.map Prod.fst)).map jcl) (i * 1) [wcl w] = ((ws.set i w).map (Option.map Prod.fst)).map jcl := by
 rw [Nat.mul_one, splice_at _ _ _ (by simpa using hi), List.map_set, List.map_set]
 rfl
theorem RAx.ws' {i : Nat} {w : Option (Nat × Jb)} (R : RAx h col r s q k J gv D ws gs T L) (hi : i < ws.length) (f : Kc h h' col col' (· = 4)) (hg : h'.get J = some (.cells (Heap.splice ((ws.map (Option.map Prod.fst)).map jcl) (i * 1) [wcl w]) true 0))
  (hw : ∀ x, w = some x → Jbc h' col' i x.1 x.2) : RAx h' col' r s q k J gv D (ws.set i w) gs T L := by
 refine ⟨R.n4, by rw [List.length_set]; exact R.tl, R.gl, ?_, R.stk.imp fun _ h => h.keep f (by decide), R.que.keep f (by decide), ⟨Nat.lt_of_lt_of_le R.jrw.lt f.next, (f.col J R.jrw.lt).trans R.jrw.co, ?_⟩, fun n x hn => ?_, R.gua.keep f (by decide) (by intro i _; omega)⟩
 ·rw [List.length_set]
  exact R.rcd.keep f (by decide)
 ·rw [ws_cells hi] at hg
  exact hg
 ·rw [List.getElem?_set] at hn
  by_cases e : i = n
  ·subst e
   rw [if_pos rfl, if_pos hi] at hn
   exact hw x (Option.some.inj hn)
  ·rw [if_neg e] at hn
   exact (R.job n x hn).keep f (by omega)
theorem rmend_c (R : RA h col r st) (hL : st.L.length ≤ 900) (h0 : ofE st.T st.j t ≠ 0 → Q (.bool false) h)
  (h1 : ∀ (i : Nat) (j : Jb), t = ((i : Nat) : Int) → st.j[i]? = some (some j) → ∀ h' col', RA h' col' r { st with L := dropL st.L t, j := st.j.set i none } → Kc h h' col col' RK → Q (.bool true) h') :
  VD fs ms f_room_Room_End [.ptr r 0, .int .i64 t] h Q := by
 obtain ⟨s, q, k, J, gv, D, ws, gs, R, e1, e2, e3, e4⟩ := R
 rw [e1] at h0
 refine vd_start (af := C_room_Room_End) true rfl (yB rfl) ?_
 conv => whnf
 refine rmo_c R (fun hn => ?_) (fun i b j ht hw => ?_)
 ·conv => whnf
  refine brt ((by simpa using hn)) (fun hc => ?_)
  (try rw [hc])
  conv => whnf
  exact h0 hn
 ·have hj : st.j[i]? = some (some j) := by rw [e1]; exact wj_get hw
  have hi := (List.getElem?_eq_some_iff.1 hw).1
  have hn4 := R.n4
  have htl := R.tl
  subst ht
  conv => whnf
  repeat (first | (refine ⟨_, ld1 R.rcd.get rfl, ?_⟩; conv => whnf) | (refine ⟨_, idx_slS3 hi, ?_⟩; conv => whnf))
  refine eff_o (sto_o R.jrw.get rfl (by rw [List.length_map, List.length_map]; omega) rfl) fun h2 E2 => ?_
  have fr2 : Fr h h2 [J] := by rw [E2]; exact (Fr.refl _ _).set (by simp)
  have f2 : Kc h h2 col (cadd col h.next 4) (· = 4) := Kc.of fr2 (by intro c hc _; simp at hc; rw [hc]; exact R.jrw.co)
  have R2 := R.ws' (w := none) hi f2 (by rw [E2]; exact get_set_same) (fun x hx => by cases hx)
  clear E2
  generalize cadd col h.next 4 = col2 at *
  conv => whnf
  repeat (first | (refine ⟨_, ld1 R2.rcd.get rfl, ?_⟩; conv => whnf))
  obtain ⟨X, hq, hcq⟩ := R2.que
  have hyD : ((i, j.e) : Id) ∈ D := (e3 (i, j.e)).2 ⟨j, hj, rfl⟩
  refine qremove_o hq _ (fun hno => (hno (i, j.e) hyD rfl).elim) fun y hy hym h3 X' D' hq' hD' ow => ?_
  have hyi : y.1 = i := by omega
  obtain ⟨f3, S3⟩ := que_of hq hcq hq' ow
  have R3 := R2.que' f3 S3
  generalize cadd col2 h2.next 3 = col3 at *
  conv => whnf
  repeat (first | (refine ⟨_, ld1 R3.rcd.get rfl, ?_⟩; conv => whnf))
  obtain ⟨k2, E, v2, S, hcs⟩ := R3.stk
  have ha : askE st.T ((i : Nat) : Int) = 0 := by
   rw [askE, decide_eq_false (by omega), decide_eq_false (by omega)]; rfl
  refine sdrop_c S hL ha fun w h4 E' v' S' fr4 hE => ?_
  obtain ⟨f4, S4⟩ := stk_of S.lt hcs S' fr4 (fun c h => h) (fun c hc => (hE c hc).imp (fun h => ⟨h, own_lt S.en h⟩) id)
  have R4 := R3.stk' f4 S4
  conv => whnf
  refine h1 i j rfl hj h4 _ ⟨s, q, k, J, gv, D', _, gs, R4, ?_, e2, fun z => ?_, fun n jn hn => ?_⟩ (((f2.wk ?_).trans (f3.wk ?_)).trans (f4.wk ?_))
  ·show st.j.set i none = _
   rw [e1, wj, wj, List.map_set]
   rfl
  ·rw [hD' z, e3 z, hyi]
   show _ ↔ ∃ j', (st.j.set i none)[z.1]? = some (some j') ∧ _
   rw [List.getElem?_set]
   by_cases e : i = z.1
   ·rw [if_pos e]
    constructor
    ·intro h; exact absurd e.symm h.2
    ·rintro ⟨j', hj', _⟩
     split at hj' <;> cases hj'
   ·rw [if_neg e]
    exact ⟨fun h => h.1, fun h => ⟨h, fun e' => e e'.symm⟩⟩
  ·have hn : (st.j.set i none)[n]? = some (some jn) := hn
   rw [List.getElem?_set] at hn
   split at hn
   ·split at hn <;> cases hn
   ·exact e4 n jn hn
  ·intro n hn; subst hn; exact ⟨by omega, by omega⟩
  ·intro n hn; subst hn; exact ⟨by omega, by omega⟩
  ·intro n hn; subst hn; exact ⟨by omega, by omega⟩
def Fst (st : St) (i : Nat) (j : Jb) : Prop := st.j[i]? = some (some j) ∧ ∀ (i' : Nat) (j' : Jb), st.j[i']? = some (some j') → ah (i', j'.e) (i, j.e) = false
theorem rmwho_c (R : RA h col r st) (hL : st.L.length ≤ 900)
  (h0 : ∀ (i : Nat) (j : Jb), st.j[i]? = some (some j) → 2 ≤ j.s → (∀ (m : Nat) (j' : Jb), m < i → st.j[m]? = some (some j') → j'.s < 2) → Q (.tup [.int .i64 ((i : Nat) : Int), .bool true]) h)
  (h1 : (∀ (i : Nat) (j : Jb), st.j[i]? ≠ some (some j)) → Q (.tup [.int .i64 0, .bool false]) h)
  (h2 : (∀ (i : Nat) (j : Jb), st.j[i]? = some (some j) → j.s < 2) → ∀ (i : Nat) (j : Jb), Fst st i j → (j.g = true ∨ lvl st.T i > ceilF st.T st.L) → Q (.tup [.int .i64 ((i : Nat) : Int), .bool true]) h)
  (h3 : (∀ (i : Nat) (j : Jb), st.j[i]? = some (some j) → j.s < 2) → ∀ (i : Nat) (j : Jb), Fst st i j → j.g = false → ¬ lvl st.T i > ceilF st.T st.L → Q (.tup [.int .i64 (topL st.L).1, .bool (topL st.L).2]) h) : VD fs ms f_room_Room_Who [.ptr r 0] h Q := by
 have R0 := R
 obtain ⟨s, q, k, J, gv, D, ws, gs, R, e1, e2, e3, e4⟩ := R
 have hn4 := R.n4
 have htl := R.tl
 refine vd_start (af := C_room_Room_Who) true rfl (yB rfl) ?_
 conv => whnf
 refine rmnone_c R.rcd.get ?_
 conv => whnf
 refine rsole_c R0 (fun hno => ?_) (fun i j hj hs hm => ?_)
 ·conv => whnf
  repeat (first | (refine ⟨_, ld1 R.rcd.get rfl, ?_⟩; conv => whnf))
  obtain ⟨X, hq, hcq⟩ := R.que
  refine qfirst_o hq (fun hD => ?_) (fun x hx => ?_)
  ·conv => whnf
   refine h1 fun i j hj => ?_
   have := (e3 (i, j.e)).2 ⟨j, hj, rfl⟩
   rw [hD] at this
   simp at this
  ·obtain ⟨j, hj, hje⟩ := (e3 x).1 hx.1
   have hF : Fst st x.1 j := ⟨hj, fun i' j' hj' => by rw [← hje]; exact hx.2 _ ((e3 (i', j'.e)).2 ⟨j', hj', rfl⟩)⟩
   rw [e1] at hj
   obtain ⟨b, hw⟩ := wj_some hj
   have hi := (List.getElem?_eq_some_iff.1 hw).1
   have hg : ((ws.map (Option.map Prod.fst)).map jcl)[x.1 * 1]? = some (.ptr b 0) := by
    rw [Nat.mul_one, List.getElem?_map, List.getElem?_map, hw]; rfl
   conv => whnf
   repeat (first | (refine ⟨_, ld1 R.rcd.get rfl, ?_⟩; conv => whnf) | (refine ⟨_, idx_slS3 hi, ?_⟩; conv => whnf) | (refine ⟨_, ld1 R.jrw.get hg, ?_⟩; conv => whnf))
   obtain ⟨p, C, o, v, JJ, _⟩ := R.job _ _ hw
   refine jbeg_c JJ ?_
   cases hgg : j.g with
   | true =>
    conv => whnf
    exact h2 hno _ _ hF (.inl hgg)
   | false =>
    conv => whnf
    repeat (first | (refine ⟨_, ld1 R.rcd.get rfl, ?_⟩; conv => whnf))
    refine vd_pure (level_c k st.T (by omega) _) ?_
    conv => whnf
    obtain ⟨k2, E, v2, S, hcs⟩ := R.stk
    obtain ⟨k1, hv1⟩ := S.view
    repeat (first | (refine ⟨_, ld1 R.rcd.get rfl, ?_⟩; conv => whnf))
    refine vd_view (sceil_c k2 k1 st.T st.L (by omega) (by omega)) rfl (.cons hv1 .nil) ?_
    conv => whnf
    refine ⟨winOk_of (by (conv => whnf); repeat' (first | exact trivial | (exact ⟨rfl, rfl, .inr ⟨_, _, rfl⟩⟩) | (refine ⟨rfl, rfl, .inl ⟨rfl, fun o ho => ?_⟩⟩; cases ho; first | rfl | exact ld1 R.rcd.get rfl) | (exact ⟨rfl, .inr ⟨_, _, rfl⟩⟩) | (refine ⟨rfl, .inl ⟨rfl, fun i o hi ho => ?_⟩⟩; cases hi; cases ho; first | rfl | exact ld1 R.rcd.get rfl) | (refine And.intro (fun hon => (Bool.false_ne_true hon).elim) ?_ <;> conv => whnf) | (refine And.intro (fun _ => ?_) ?_ <;> conv => whnf) | (refine And.intro ?_ ?_ <;> conv => whnf))), ?_⟩
    conv => whnf
    refine br (fun hc => ?_) (fun hc => ?_) <;> (try rw [hc]) <;> (conv => whnf)
    ·exact h2 hno _ _ hF (.inr (of_decide_eq_true hc))
    ·repeat (first | (refine ⟨_, ld1 R.rcd.get rfl, ?_⟩; conv => whnf))
     refine vd_view (top_c k2 k1 st.T st.L (by omega)) rfl (.cons hv1 .nil) ?_
     conv => whnf
     exact h3 hno _ _ hF hgg (of_decide_eq_false hc)
 ·conv => whnf
  exact h0 i j hj hs hm
end
theorem jnew_ok {t : Tk} {l : List Op} {a : Int} (h : jnewE t l a = 0) : l.length ≤ 32 ∧ 0 ≤ a ∧ a ≤ 1099511627776 ∧ (1 ≤ t.w ∧ t.w ≤ t.d ∧ t.d ≤ t.p ∧ t.p ≤ 64) ∧ IntKind.i64.wrap (a + t.d) = a + t.d := by
 rw [jnewE] at h
 cases c1 : tasksOk [t] with
 | false => rw [c1] at h; simp at h
 | true =>
  cases c2 : decide (a < 0) with
  | true => rw [c1, c2] at h; simp at h
  | false =>
   rw [c1, c2] at h
   cases c3 : decide (a > 1099511627776) with
   | true => rw [c3] at h; simp at h
   | false =>
    rw [c3] at h
    have h : newE l = 0 := h
    have a0 := of_decide_eq_false c2
    have a1 := of_decide_eq_false c3
    have ht : 1 ≤ t.w ∧ t.w ≤ t.d ∧ t.d ≤ t.p ∧ t.p ≤ 64 := by
     simp only [tasksOk, List.all_cons, List.all_nil, Bool.and_true, Bool.and_eq_true, taskOk, decide_eq_true_eq] at c1
     exact c1.1
    refine ⟨?_, by omega, by omega, ht, IntWalk.i64_in _ (by omega)⟩
    rw [newE] at h
    split at h
    ·cases h
    ·omega
section
variable {h h' : Heap} {col col' : Nat → Nat} {r s q k J : Nat} {gv : AV} {D : List Id} {ws : Ws} {gs : List (Nat × Int)} {T : List Tk} {L : List En} {st : St} {Q : AV → Heap → Prop} {t : Int}
theorem RAx.gua' {i : Nat} {g : Nat × Int} {tk : Tk} {n : Int} (R : RAx h col r s q k J gv D ws gs T L) (hg : gs[i]? = some g) (ht : T[i]? = some tk) (f : Kc h h' col col' (· = 20 + i)) (hb : h'.get g.1 = some (gB tk.p n)) : RAx h' col' r s q k J gv D ws (gs.set i (g.1, n)) T L := by
 obtain ⟨b1, b2, b3, b4⟩ := R.gua.all i g tk hg ht
 have hi := (List.getElem?_eq_some_iff.1 hg).1
 have hn4 := R.n4
 have hgl := R.gl
 have em : (gs.set i (g.1, n)).map (fun g => AV.ptr g.1 0) = gs.map fun g => AV.ptr g.1 0 := by
  rw [List.map_set]
  exact set_self (by rw [List.getElem?_map, hg]; rfl)
 refine ⟨R.n4, R.tl, by rw [List.length_set]; exact R.gl, R.rcd.keep f (by omega), R.stk.imp fun _ h => h.keep f (by omega), R.que.keep f (by omega), R.jrw.keep f (by omega), fun n w hw => (R.job n w hw).keep f (by have := R.len hw; omega), ?_, fun m g' t' hm ht' => ?_⟩
 ·rcases R.gua.row with h | ⟨G, op, es, a1, a2, a3, a4⟩
  ·left
   rw [h]; rfl
  ·right
   rw [List.length_set, em]
   exact ⟨G, op, es, a1, Nat.lt_of_lt_of_le a2 f.next, (f.col G a2).trans a3, (f.keep G a2 (by rw [a3]; omega)).trans a4⟩
 ·rw [List.getElem?_set] at hm
  by_cases e : i = m
  ·subst e
   rw [if_pos rfl, if_pos hi] at hm
   cases hm
   rw [ht] at ht'
   cases ht'
   exact ⟨b1, Nat.lt_of_lt_of_le b2 f.next, (f.col _ b2).trans b3, hb⟩
  ·rw [if_neg e] at hm
   obtain ⟨a1, a2, a3, a4⟩ := R.gua.all m g' t' hm ht'
   exact ⟨a1, Nat.lt_of_lt_of_le a2 f.next, (f.col _ a2).trans a3, (f.keep _ a2 (by rw [a3]; omega)).trans a4⟩
def R3K (n : Nat) : Prop := RK n ∨ n = 300
theorem rmrel_g {l : List Op} {ov : AV} {bs : List Nat} {now : Int} (R : RA h col r st) (hbs : ∀ c, c ∈ bs → c < h.next → col c = 300)
  (hnew : ∀ (t0 : Tk) (Q : AV → Heap → Prop), (jnewE t0 l now ≠ 0 → ∀ h', Fr h h' bs → Q (.tup [.nilp, .int .i64 (jnewE t0 l now)]) h') →
   (jnewE t0 l now = 0 → ∀ h' b p C v, JP h' b p C 0 v (jNew t0 l now) → h.next ≤ b → h.next ≤ p → h.next ≤ C → (l ≠ [] → C < h'.next) → Fr h h' bs → Q (.tup [.ptr b 0, .int .i64 0]) h') → VD fs ms f_job_New [tk t0, ov, .int .i64 now] h Q)
  (h0 : askE st.T t ≠ 0 → Q (.int .i64 (askE st.T t)) h)
  (h1 : ∀ (i : Nat) (j : Jb), t = ((i : Nat) : Int) → st.j[i]? = some (some j) → Q (.int .i64 141) h)
  (h2 : ∀ (i : Nat) (tk : Tk), t = ((i : Nat) : Int) → st.T[i]? = some tk → st.j[i]? = some none → jnewE tk l now ≠ 0 → ∀ h' col', RA h' col' r st → Kc h h' col col' R3K → Q (.int .i64 (jnewE tk l now)) h')
  (h3 : ∀ (i : Nat) (tk : Tk) (n : Int), t = ((i : Nat) : Int) → st.T[i]? = some tk → st.j[i]? = some none → jnewE tk l now = 0 → st.g[i]? = some n → gAsk n now ≠ 0 → ∀ h' col', RA h' col' r st → Kc h h' col col' R3K → Q (.int .i64 (gAsk n now)) h')
  (h4 : ∀ (i : Nat) (tk : Tk) (n : Int), t = ((i : Nat) : Int) → st.T[i]? = some tk → st.j[i]? = some none → jnewE tk l now = 0 → st.g[i]? = some n → gAsk n now = 0 → ∀ h' col', RA h' col' r { st with j := st.j.set i (some (jNew tk l now)), g := st.g.set i (gNx tk.p n now) } → Kc h h' col col' R3K → Q (.int .i64 0) h') :
  VD fs ms f_room_Room_Release [.ptr r 0, .int .i64 t, ov, .int .i64 now] h Q := by
 obtain ⟨s, q, k, J, gv, D, ws, gs, R, e1, e2, e3, e4⟩ := R
 have hn4 := R.n4
 have htl := R.tl
 have hgl := R.gl
 refine vd_start (af := C_room_Room_Release) true rfl (yB rfl) ?_
 conv => whnf
 refine rmhas_c R.rcd.get ?_
 conv => whnf
 refine br (fun hc => ?_) (fun hc => ?_) <;> (try rw [hc]) <;> (conv => whnf)
 ·exact h0 (by simpa using hc)
 obtain ⟨i, rfl, hiT⟩ := ask_in (T := st.T) (t := t) (by simpa using hc)
 have hi : i < ws.length := by omega
 have hwi : ws[i]? = some ws[i] := List.getElem?_eq_getElem hi
 have hg : ((ws.map (Option.map Prod.fst)).map jcl)[i * 1]? = some (wcl ws[i]) := by
  rw [Nat.mul_one, List.getElem?_map, List.getElem?_map, hwi]; rfl
 repeat (first | (refine ⟨_, ld1 R.rcd.get rfl, ?_⟩; conv => whnf) | (refine ⟨_, idx_slS3 hi, ?_⟩; conv => whnf) | (refine ⟨_, ld1 R.jrw.get hg, ?_⟩; conv => whnf))
 cases hws : ws[i] with
 | some w =>
  rw [hws] at hwi
  conv => whnf
  exact h1 i w.2 rfl (by rw [e1]; exact wj_get hwi)
 | none =>
 rw [hws] at hwi
 have hj0 : st.j[i]? = some none := by rw [e1]; exact wj_none hwi
 conv => whnf
 obtain ⟨tk0, htk⟩ : ∃ u, u = st.T[i] := ⟨_, rfl⟩
 have hti : st.T[i]? = some tk0 := by rw [htk]; exact List.getElem?_eq_getElem hiT
 repeat (first | (refine ⟨_, ld1 R.rcd.get rfl, ?_⟩; conv => whnf) | (refine ⟨_, idx_tk hiT, ?_⟩; conv => whnf))
 rw [← htk]
 refine ⟨tk tk0, rfl, ?_⟩
 conv => whnf
 have kbs : ∀ {h5 : Heap} (x : Nat), Fr h h5 bs → Kc h h5 col (cadd col h.next x) (· = 300) := fun x fr => ⟨fr.next, fun c hc hn => fr.keep c hc (fun hm => hn (hbs c hm hc)), fun c hc => cadd_old hc⟩
 refine hnew tk0 _ (fun hn h5 fr => ?_) (fun hz h5 b p C v JJ hb hp hC hCl fr => ?_)
 ·conv => whnf
  refine brt ((by simpa using hn)) (fun hc => ?_)
  (try rw [hc])
  conv => whnf
  have f5 := kbs 300 fr
  exact h2 i tk0 rfl hti hj0 hn _ _ ⟨s, q, k, J, gv, D, ws, gs, R.keep f5 (fun n h1 h2 h => by omega) (fun i h1 h => by omega), e1, e2, e3, e4⟩ (f5.wk fun n h => .inr h)
 obtain ⟨ok1, ok2, ok3, ok4, ok5⟩ := jnew_ok hz
 have hpl := JJ.rw.lt
 have JJ2 : JP h5 b p (if l = [] then p else C) 0 v (jNew tk0 l now) := by
  refine ⟨JJ.lt, JJ.st, JJ.rw.any (fun hne => if_neg hne), JJ.n1, ?_⟩
  by_cases e : l = []
  ·rw [if_pos e]; exact JJ.n1
  ·rw [if_neg e]; exact JJ.n2
 have f5 : Kc h h5 col (cadd col h.next (10 + i)) (· = 300) := kbs _ fr
 have hC2 : (if l = [] then p else C) < h5.next ∧ h.next ≤ (if l = [] then p else C) := by
  by_cases e : l = []
  ·rw [if_pos e]; exact ⟨hpl, hp⟩
  ·rw [if_neg e]; exact ⟨hCl e, hC⟩
 have JB : Jbc h5 (cadd col h.next (10 + i)) i b (jNew tk0 l now) := ⟨p, _, 0, v, JJ2, hC2.1, cadd_new hb, cadd_new hp, cadd_new hC2.2⟩
 have R5 := R.keep f5 (fun n h1 h2 h => by omega) (fun i h1 h => by omega)
 generalize cadd col h.next (10 + i) = col5 at *
 obtain ⟨g, hgi⟩ : ∃ g, gs[i]? = some g := ⟨_, List.getElem?_eq_getElem (by omega)⟩
 obtain ⟨a1, a2, a3, a4⟩ := R5.gua.all i g tk0 hgi hti
 have hgrow : ∃ G op es, gv = .sl G 0 gs.length gs.length op ∧ h5.get G = some (.cells (gs.map fun g => .ptr g.1 0) true es) := by
  rcases R5.gua.row with h | ⟨G, op, es, b1, _, _, b2⟩
  ·rw [h] at hgi; simp at hgi
  ·exact ⟨G, op, es, b1, b2⟩
 obtain ⟨G, op, es, rfl, hG⟩ := hgrow
 have hGi : (gs.map fun g => AV.ptr g.1 0)[i * 1]? = some (.ptr g.1 0) := by rw [Nat.mul_one, List.getElem?_map, hgi]; rfl
 have hig : i < gs.length := by omega
 have hgn : st.g[i]? = some g.2 := by rw [e2, List.getElem?_map, hgi]; rfl
 conv => whnf
 repeat (first | (refine ⟨_, ld1 R5.rcd.get rfl, ?_⟩; conv => whnf) | (refine ⟨_, idx_slS3 hig, ?_⟩; conv => whnf) | (refine ⟨_, ld1 hG hGi, ?_⟩; conv => whnf))
 refine grel_c a4 a1 fun h6 hb6 fr6 => ?_
 have f6 : Kc h5 h6 col5 (cadd col5 h5.next (20 + i)) (· = 20 + i) := Kc.of fr6 (by intro c hc _; simp at hc; rw [hc]; exact a3)
 have R6 := R5.gua' hgi hti f6 hb6
 have JB6 := JB.keep f6 (by omega)
 have kf5 : Kc h h5 col col5 R3K := f5.wk (fun _ h => .inr h)
 have kf6 : Kc h5 h6 col5 (cadd col5 h5.next (20 + i)) R3K := f6.wk (fun n hn => by subst hn; exact .inl ⟨by omega, by omega⟩)
 generalize cadd col5 h5.next (20 + i) = col6 at *
 have eg : (gs.set i (g.1, gNx tk0.p g.2 now)).map Prod.snd = st.g.set i (gNx tk0.p g.2 now) := by rw [List.map_set, ← e2]
 conv => whnf
 by_cases ha : gAsk g.2 now = 0
 ·refine brf ((by simpa using ha)) (fun hc => ?_)
  (try rw [hc])
  conv => whnf
  repeat (first | (refine ⟨_, ld1 R6.rcd.get rfl, ?_⟩; conv => whnf) | (refine ⟨_, idx_slS3 hi, ?_⟩; conv => whnf))
  refine eff_o (sto_o R6.jrw.get rfl (by rw [List.length_map, List.length_map]; omega) rfl) fun h7 E7 => ?_
  have fr7 : Fr h6 h7 [J] := by rw [E7]; exact (Fr.refl _ _).set (by simp)
  have f7 : Kc h6 h7 col6 (cadd col6 h6.next 4) (· = 4) := Kc.of fr7 (by intro c hc _; simp at hc; rw [hc]; exact R6.jrw.co)
  have JB7 := JB6.keep f7 (by omega)
  have R7 := R6.ws' (w := some (b, jNew tk0 l now)) hi f7 (by rw [E7]; exact get_set_same) (fun x hx => by cases hx; exact JB7)
  have kf7 : Kc h6 h7 col6 (cadd col6 h6.next 4) R3K := f7.wk (fun n hn => by subst hn; exact .inl ⟨by omega, by omega⟩)
  clear E7
  generalize cadd col6 h6.next 4 = col7 at *
  conv => whnf
  repeat (first | (refine ⟨_, ld1 R7.rcd.get rfl, ?_⟩; conv => whnf))
  obtain ⟨p', C', o', v', JJ7, _⟩ := JB7
  refine jdead_c JJ7 ?_
  conv => whnf
  obtain ⟨X, hq, hcq⟩ := R7.que
  have je : (jNew tk0 l now).e = now + tk0.d := ok5
  have hnoD : ∀ y ∈ D, y.1 ≠ i := by
   intro y hy e
   obtain ⟨j', hj', _⟩ := (e3 y).1 hy
   rw [e, hj0] at hj'
   cases hj'
  refine qput_o hq _ _ (fun h => by omega) (fun _ h => by rw [je] at h; omega) (fun _ _ y hy he => (hnoD y hy (by omega)).elim) (fun _ n hn _ _ h8 X' D' hq' hD' ow => ?_)
  have hni : n = i := by omega
  subst hni
  obtain ⟨f8, S8⟩ := que_of hq hcq hq' ow
  have R8 := R7.que' f8 S8
  have kf8 := f8.wk (K' := R3K) (fun n hn => by subst hn; exact .inl ⟨by omega, by omega⟩)
  conv => whnf
  refine ⟨winOk_of (by (conv => whnf); repeat' (first | exact trivial | (exact ⟨rfl, rfl, .inr ⟨_, _, rfl⟩⟩) | (refine ⟨rfl, rfl, .inl ⟨rfl, fun o ho => ?_⟩⟩; cases ho; first | rfl | exact ld1 R7.rcd.get rfl) | (exact ⟨rfl, .inr ⟨_, _, rfl⟩⟩) | (refine ⟨rfl, .inl ⟨rfl, fun i o hi ho => ?_⟩⟩; cases hi; cases ho; first | rfl | exact ld1 R7.rcd.get rfl) | (refine And.intro (fun hon => (Bool.false_ne_true hon).elim) ?_ <;> conv => whnf) | (refine And.intro (fun _ => ?_) ?_ <;> conv => whnf) | (refine And.intro ?_ ?_ <;> conv => whnf))), ?_⟩
  conv => whnf
  refine h4 n tk0 g.2 rfl hti hj0 hz hgn ha h8 _ ⟨s, q, k, J, _, D', _, _, R8, ?_, eg.symm, fun z => ?_, fun m jm hm => ?_⟩ (((kf5.trans kf6).trans kf7).trans kf8)
  ·show st.j.set n _ = _
   rw [wj_set, ← e1]
  ·rw [hD' z, e3 z]
   show _ ↔ ∃ j', (st.j.set n (some (jNew tk0 l now)))[z.1]? = some (some j') ∧ _
   rw [List.getElem?_set]
   have hl : n < st.j.length := (List.getElem?_eq_some_iff.1 hj0).1
   by_cases e : n = z.1
   ·rw [if_pos e, if_pos hl]
    constructor
    ·rintro (⟨j', hj', _⟩ | hz')
     ·rw [← e, hj0] at hj'; cases hj'
     ·exact ⟨_, rfl, by rw [hz']⟩
    ·rintro ⟨j', hj', he⟩
     cases hj'
     exact .inr (Prod.ext e.symm he)
   ·rw [if_neg e]
    constructor
    ·rintro (h | hz')
     ·exact h
     ·rw [hz'] at e; exact absurd rfl e
    ·exact .inl
  ·have hm : (st.j.set n (some (jNew tk0 l now)))[m]? = some (some jm) := hm
   rw [List.getElem?_set] at hm
   split at hm
   ·split at hm
    ·cases hm
     exact ok1
    ·cases hm
   ·exact e4 m jm hm
 ·refine brt ((by simpa using ha)) (fun hc => ?_)
  (try rw [hc])
  conv => whnf
  have e : gNx tk0.p g.2 now = g.2 := by rw [gNx, if_neg ha]
  refine h3 i tk0 g.2 rfl hti hj0 hz hgn ha h6 col6 ⟨s, q, k, J, _, D, ws, _, R6, e1, ?_, e3, e4⟩ (kf5.trans kf6)
  rw [eg, e]
  exact (set_self hgn).symm
end
theorem fr_del {h H : Heap} {b : Nat} (f : Fr h H []) : Fr h (delAll [b] H) [b] := by
 refine ⟨f.next, fun c hc hn => ?_⟩
 have hne : c ≠ b := by simpa using hn
 show (H.del b).get c = _
 rw [get_del_ne hne]
 exact f.keep c hc (by simp)
theorem jnewS_c {h : Heap} {Q : AV → Heap → Prop} {t : Tk} {l : List Op} {a : Int} {B es : Nat} (hl : l.length < 2 ^ 62) (hB : B < h.next) (hg : h.get B = some (.cells (flatCells (ops l)) true es))
  (h0 : jnewE t l a ≠ 0 → ∀ h', Fr h h' [B] → Q (.tup [.nilp, .int .i64 (jnewE t l a)]) h')
  (h1 : jnewE t l a = 0 → ∀ h' b p C v, JP h' b p C 0 v (jNew t l a) → h.next ≤ b → h.next ≤ p → h.next ≤ C → (l ≠ [] → C < h'.next) → Fr h h' [B] → Q (.tup [.ptr b 0, .int .i64 0]) h') : VD fs ms f_job_New [tk t, .sl B 0 l.length l.length false, .int .i64 a] h Q := by
 refine vd_start (af := C_job_New) true rfl (yB rfl) ?_
 conv => whnf
 refine ⟨_, Ads.ldN (n := 8) get_new_same (Nat.le_refl _), ?_⟩
 conv => whnf
 let H2 := (h.new (.cells (tk t).cells true 0)).new (.cells (tk t).cells true 0)
 let H3 := H2.new (.cells [.int .i64 0] true 0)
 have fr0 : Fr h H3 [] := (((Fr.refl h []).new (x := _)).new (x := _)).new (x := _)
 have n1 : h.next < H2.next := Nat.lt_succ_of_lt (Nat.lt_succ_self _)
 have n0 : h.next < H3.next := Nat.lt_succ_of_lt n1
 have g0 : H3.get h.next = some (.cells (tk t).cells true 0) := by
  rw [get_new_ne n1, get_new_ne (Nat.lt_succ_self _)]; exact get_new_same
 have g1 : H3.get (h.next + 1) = some (.cells (tk t).cells true 0) := by
  rw [get_new_ne (Nat.lt_succ_self _)]; exact get_new_same
 have gB3 : H3.get B = some (.cells (flatCells (ops l) ++ []) true es) := by rw [List.append_nil]; exact (fr0.keep B hB (by simp)).trans hg
 have frd : Fr h (delAll [B] H3) [B] := fr_del fr0
 have gd : (delAll [B] H3).get h.next = some (.cells (tk t).cells true 0) := by
  show (H3.del B).get h.next = _
  rw [get_del_ne (by omega)]
  exact g0
 refine vd_view (check_c 2 2 [t] [0] (by simp) (by simp)) rfl (.cons (.row (s := 8) trivial g1 rfl rfl rfl (Nat.le_refl _) (by omega) (fun _ => rfl) (fun _ => rfl) (cl_tks _)) (.cons (.row (s := 1) trivial (get_new_same (h := H2)) rfl rfl rfl (Nat.le_refl _) (by omega) (fun _ => rfl) (fun _ => rfl) (cl_ints _)) .nil)) ?_
 rw [demOne]
 have e1 : jnewE t l a = if !tasksOk [t] || decide (a < 0) then 2 else if decide (a > 1099511627776) then 10 else newE l := rfl
 cases c1 : tasksOk [t] with
 | false =>
  rw [c1] at e1
  rw [e1] at h0
  conv => whnf
  exact h0 (by simp) _ (fr0.wk (by simp))
 | true =>
 rw [c1] at e1
 conv => whnf
 refine br (fun hc => ?_) (fun hc => ?_) <;> (try rw [hc]) <;> (conv => whnf)
 ·rw [hc] at e1
  rw [e1] at h0
  exact h0 (by simp) _ (fr0.wk (by simp))
 rw [hc, Bool.not_true, Bool.false_or, if_neg (by simp)] at e1
 refine br (fun hc => ?_) (fun hc => ?_) <;> (try rw [hc]) <;> (conv => whnf)
 ·rw [if_pos hc] at e1
  rw [e1] at h0
  exact h0 (by simp) _ (fr0.wk (by simp))
 rw [if_neg (by rw [hc]; simp)] at e1
 rw [e1] at h0 h1
 refine vd_frz [B] (.cons (frz_pre (List.mem_singleton.2 rfl) gB3 rfl (size_ops l) (len_ops l).symm (Nat.le_refl _) (cl_ops l)) .nil) ?_
 refine anew_c (fun h => by cases h) hl (fun hn h2 fr => ?_) (fun hz h2 p C v r hp hC hlt fr => ?_)
 ·conv => whnf
  refine brt ((by simpa using hn)) (fun hc => ?_)
  (try rw [hc])
  conv => whnf
  exact h0 hn _ (frd.trans (fr.wk (by simp)))
 ·conv => whnf
  refine ⟨_, Ads.ldN (n := 8) ((fr.keep _ n0 (by simp)).trans gd) (Nat.le_refl _), ?_⟩
  conv => whnf
  refine ⟨_, ld1 ((fr.keep _ n0 (by simp)).trans gd) rfl, ?_⟩
  conv => whnf
  have fr3 : Fr h (h2.new (jB p (jNew t l a))) [B] := (frd.trans (fr.wk (by simp))).new
  have r3 : Rw (h2.new (jB p (jNew t l a))) p (if l = [] then h2.next + 1 else C) 0 [.bool true] v l := (r.keep ((Fr.refl _ []).new)).any (fun hn => if_neg hn)
  have hnx := (frd.trans (fr.wk (cs := [B]) (by simp))).next
  refine h1 hz _ h2.next p _ v ⟨Nat.lt_succ_self _, get_new_same, r3, ?_, ?_⟩ ?_ ?_ ?_ ?_ fr3
  ·have := r.lt; omega
  ·by_cases hn : l = []
   ·rw [if_pos hn]; omega
   ·rw [if_neg hn]; have := hlt hn; omega
  ·exact hnx
  ·exact Nat.le_trans fr0.next hp
  ·have := Nat.le_trans fr0.next hC
   by_cases hn : l = []
   ·rw [if_pos hn]; omega
   ·rw [if_neg hn]; omega
  ·intro hn
   rw [if_neg hn]
   exact Nat.lt_succ_of_lt (hlt hn)
theorem rmrelS_c {h : Heap} {col : Nat → Nat} {r B es : Nat} {st : St} {Q : AV → Heap → Prop} {t now : Int} {l : List Op} (R : RA h col r st) (hl : l.length < 2 ^ 62) (hB : B < h.next) (hcol : col B = 300) (hg : h.get B = some (.cells (flatCells (ops l)) true es))
  (h0 : askE st.T t ≠ 0 → Q (.int .i64 (askE st.T t)) h)
  (h1 : ∀ (i : Nat) (j : Jb), t = ((i : Nat) : Int) → st.j[i]? = some (some j) → Q (.int .i64 141) h)
  (h2 : ∀ (i : Nat) (tk : Tk), t = ((i : Nat) : Int) → st.T[i]? = some tk → st.j[i]? = some none → jnewE tk l now ≠ 0 → ∀ h' col', RA h' col' r st → Kc h h' col col' R3K → Q (.int .i64 (jnewE tk l now)) h')
  (h3 : ∀ (i : Nat) (tk : Tk) (n : Int), t = ((i : Nat) : Int) → st.T[i]? = some tk → st.j[i]? = some none → jnewE tk l now = 0 → st.g[i]? = some n → gAsk n now ≠ 0 → ∀ h' col', RA h' col' r st → Kc h h' col col' R3K → Q (.int .i64 (gAsk n now)) h')
  (h4 : ∀ (i : Nat) (tk : Tk) (n : Int), t = ((i : Nat) : Int) → st.T[i]? = some tk → st.j[i]? = some none → jnewE tk l now = 0 → st.g[i]? = some n → gAsk n now = 0 → ∀ h' col', RA h' col' r { st with j := st.j.set i (some (jNew tk l now)), g := st.g.set i (gNx tk.p n now) } → Kc h h' col col' R3K → Q (.int .i64 0) h') :
  VD fs ms f_room_Room_Release [.ptr r 0, .int .i64 t, .sl B 0 l.length l.length false, .int .i64 now] h Q :=
 rmrel_g R (bs := [B]) (by simpa using fun _ => hcol) (fun t0 Q a b => jnewS_c hl hB hg a b) h0 h1 h2 h3 h4
end Ir
end Go.Proofs.YtnlcabhfkpafmaaGreat
