/-
  Ready: the queue and the document's answer the same: same.
-/
import Derived.Test.YtenafeojcgmnhaaVRdO
set_option maxRecDepth 100000
set_option linter.unusedSimpArgs false
set_option linter.unusedVariables false
namespace Go.Proofs.Ytenafeojcgmnhaa
open Go Ads
namespace Ir

/-- Both queues in one heap. -/
structure Both (h : Heap) (q : Nat) (S : List Nat) (m b es : Nat) (op : Bool) (L : List Id) (D : List Int) : Prop where
  qa : QAt h q S ((D.length : Nat) : Int) L
  ma : MAt h m b es op D
  l4 : D.length ≤ 4
  mch : Mch L D
  mS : m ∉ S
  bS : b ∉ S
theorem Both.keep {h h' : Heap} {q : Nat} {S : List Nat} {m b es : Nat} {op : Bool} {L : List Id} {D : List Int} (H : Both h q S m b es op L D) (fr : Fr h h' []) : Both h' q S m b es op L D :=
  ⟨H.qa.keep fr (by simp), H.ma.keep fr (by simp) (by simp), H.l4, H.mch, H.mS, H.bS⟩
theorem Both.first {h : Heap} {q : Nat} {S : List Nat} {m b es : Nat} {op : Bool} {L : List Id} {D : List Int} (H : Both h q S m b es op L D) : ∃ (x y : Int) (c : Bool), (∀ {Q : AV → Heap → Prop}, Q (.tup [.int .i64 x, .int .i64 y, .bool c]) h → VD fs ms f_ready_Queue_First [.ptr q 0] h Q) ∧
    ∀ {Q : AV → Heap → Prop}, (∀ h', Fr h h' [] → Q (.tup [.int .i64 x, .int .i64 y, .bool c]) h') → VD fs ms f_escapementref15_Queue_First [.ptr m 0] h Q := by
  by_cases hL : L = []
  · refine ⟨0, 0, false, fun {Q} hQ => qfirst_o H.qa (fun _ => hQ) fun x hx => ?_, fun {Q} hQ => mfirst_o H.ma H.l4 (fun h' _ fr => hQ h' fr) fun h' x l hd fr => ?_⟩
    · have := hx.1; rw [hL] at this; simp at this
    · have := H.mch.none.1 hL; rw [hd] at this; cases this
  · have hd : dj D D.length ≠ [] := fun e => hL (H.mch.none.2 e)
    obtain ⟨x, l, hd⟩ : ∃ x l, dj D D.length = x :: l := List.exists_cons_of_ne_nil hd
    refine ⟨((x : Nat) : Int), gD D x, true, fun {Q} hQ => qfirst_o H.qa (fun e => absurd e hL) fun y hy => ?_, fun {Q} hQ => mfirst_o H.ma H.l4 (fun h' e fr => ?_) fun h' x' l' hd' fr => ?_⟩
    · rw [H.mch.first hy hd]; exact hQ
    · rw [hd] at e; cases e
    · rw [hd] at hd'; cases hd'; exact hQ h' fr
theorem Both.dead {h : Heap} {q : Nat} {S : List Nat} {m b es : Nat} {op : Bool} {L : List Id} {D : List Int} (H : Both h q S m b es op L D) (id : Int) : ∃ (x : Int) (c : Bool), (∀ {Q : AV → Heap → Prop}, Q (.tup [.int .i64 x, .bool c]) h → VD fs ms f_ready_Queue_Deadline [.ptr q 0, .int .i64 id] h Q) ∧
    ∀ {Q : AV → Heap → Prop}, Q (.tup [.int .i64 x, .bool c]) h → VD fs ms f_escapementref15_Queue_Deadline [.ptr m 0, .int .i64 id] h Q := by
  cases hb : hasD D id with
  | false =>
    refine ⟨0, false, fun {Q} hQ => qdead_o H.qa id (fun _ => hQ) fun y e hy => ?_, fun {Q} hQ => mdead_o H.ma id (fun _ => hQ) fun h => ?_⟩
    · rw [(H.mch.has id).2 ⟨y, hy, e⟩] at hb; cases hb
    · rw [hb] at h; cases h
  | true =>
    obtain ⟨y, hy, e⟩ := (H.mch.has id).1 hb
    refine ⟨y.2, true, fun {Q} hQ => qdead_o H.qa id (fun hn => absurd e (hn y hy)) fun z e2 hz => ?_, fun {Q} hQ => mdead_o H.ma id (fun h => ?_) fun h => ?_⟩
    · have : y = z := H.qa.uniq hy hz (by omega)
      rw [← this]; exact hQ
    · rw [hb] at h; cases h
    · rw [H.mch.val hy e]; exact hQ
theorem IRow.frz {lo : Nat} {h : Heap} {v : AV} {l : List Int} (hr : IRow lo h v l) : ∃ k, Frz (fun _ => True) h v (.fz k (ints l)) := by
  rcases hr with ⟨rfl, rfl⟩ | ⟨b, h1, h2, rfl, h4⟩
  · exact ⟨3, .nils⟩
  · exact ⟨0, frz_open trivial h4 (flat_ints l).symm (size_ints l) (len_ints l).symm (cl_ints l)⟩
theorem IRow.put {lo : Nat} {h : Heap} {v : AV} {l : List Int} (hr : IRow lo h v l) {i : Nat} (hi : i < l.length) (x : Int) : ∃ b, pV (.iaddrS 1) [v, .int .i64 ((i : Nat) : Int)] = some (.ptr b (i * 1)) ∧ ∃ h', eV (.store 1) [.ptr b (i * 1), .int .i64 x] h = some (.undef, h') ∧ IRow lo h' v (l.set i x) ∧ h'.next = h.next ∧ ∀ c, c < lo → h'.get c = h.get c := by
  rcases hr with ⟨rfl, rfl⟩ | ⟨b, h1, h2, rfl, h4⟩
  · simp at hi
  · refine ⟨b, idx_slS3 hi, _, sto_o (n := 1) (v := .int .i64 x) h4 rfl (by rw [len_ints, Nat.mul_one]; exact hi) rfl, .inr ⟨b, h1, h2, by rw [List.length_set], ?_⟩, rfl, fun c hc => get_set_ne (by omega)⟩
    rw [get_set_same]
    have := ints_set hi x
    exact congrArg (fun z => some (Blk.cells z true 1)) this
theorem same_l0 {q m : Nat} {lo : Nat} {h0 : Heap} {v : AV} {N : Nat} {B : Nat} {Q : AX → Env → Heap → Prop} (hlo : h0.next ≤ lo) (hN : N ≤ 1000) :
    ∀ (k i : Nat) (h : Heap) (l : List Int) (env : Env), N - i = k → i ≤ N → l.length = N → IRow lo h v l → Fr h0 h [] → AllAt env [(0, .ptr q 0), (1, .ptr m 0), (11, v), (12, .int .i64 ((i : Nat) : Int))] →
    (∀ (h' : Heap) (e' : Env), Tr.get e' 0 = some (.ptr q 0) → Tr.get e' 1 = some (.ptr m 0) → Fr h0 h' [] → Q (.exit 0) e' h') →
    VC fs ms B false (.loop L_escapementlaw15_same_0) env h Q := by
  intro k
  induction k using Nat.strongRecOn with
  | ind k ih =>
  intro i h l env hk hi hl hr fr0 henv hQ
  refine vc_slots 4 [(0, .ptr q 0), (1, .ptr m 0), (11, v), (12, .int .i64 ((i : Nat) : Int))] henv ?_
  refine vc_loop (z := true) ?_
  set_option smartUnfolding false in conv => whnf
  refine op_some hr.read.1 ?_
  set_option smartUnfolding false in conv => whnf
  refine br (fun hc => ?_) (fun hc => ?_) <;> (try rw [hc]) <;> (set_option smartUnfolding false in conv => whnf)
  · have hlt : i < l.length := by have := of_decide_eq_true hc; omega
    obtain ⟨b, p1, h1, p2, p3, p4, p5⟩ := hr.put hlt (-1)
    refine ⟨_, p1, ?_⟩
    set_option smartUnfolding false in conv => whnf
    refine eff_o p2 fun h1' e1 => ?_
    subst e1
    set_option smartUnfolding false in conv => whnf
    refine ih (N - (i + 1)) (by omega) (i + 1) h1' _ _ rfl (by omega) (by rw [List.length_set]; exact hl) p3 ⟨by have := fr0.next; omega, fun c hc _ => by rw [p5 c (by omega)]; exact fr0.keep c hc (by simp)⟩ ⟨rfl, rfl, rfl, inc_slot (by omega), trivial⟩ hQ
  · exact hQ h _ rfl rfl fr0
theorem same_l1 {h : Heap} {q : Nat} {S : List Nat} {m b es : Nat} {op : Bool} {L : List Id} {D : List Int} (H : Both h q S m b es op L D) {B : Nat} {Q : AX → Env → Heap → Prop} :
    ∀ (k : Nat) (j : Int) (env : Env), (6 - j).toNat = k → -1 ≤ j → AllAt env [(0, .ptr q 0), (1, .ptr m 0), (13, .int .i64 j)] →
    (∀ (e' : Env), Q (.exit 2) e' h) → VC fs ms B false (.loop L_escapementlaw15_same_1) env h Q := by
  intro k
  induction k using Nat.strongRecOn with
  | ind k ih =>
  intro j env hk hj henv hQ
  refine vc_slots 4 [(0, .ptr q 0), (1, .ptr m 0), (13, .int .i64 j)] henv ?_
  refine vc_loop (z := true) ?_
  set_option smartUnfolding false in conv => whnf
  refine br (fun hc => ?_) (fun hc => ?_) <;> (try rw [hc]) <;> (set_option smartUnfolding false in conv => whnf)
  · have hlt : j < 6 := of_decide_eq_true hc
    obtain ⟨x, c, d1, d2⟩ := H.dead j
    refine d1 ?_
    set_option smartUnfolding false in conv => whnf
    refine d2 ?_
    set_option smartUnfolding false in conv => whnf
    refine brf (by simp) (fun hc => ?_)
    (try rw [hc])
    set_option smartUnfolding false in conv => whnf
    refine brf (by simp) (fun hc => ?_)
    (try rw [hc])
    set_option smartUnfolding false in conv => whnf
    refine ih (6 - (j + 1)).toNat (by omega) (j + 1) _ rfl (by omega) ⟨rfl, rfl, ?_, trivial⟩ hQ
    show some (AV.int .i64 (IntKind.i64.wrap (j + 1))) = some (AV.int .i64 (j + 1))
    rw [IntWalk.i64_in _ (by omega)]
  · exact hQ _
theorem same_o {h : Heap} {q : Nat} {S : List Nat} {m b es : Nat} {op : Bool} {L : List Id} {D : List Int} (H : Both h q S m b es op L D) {Q : AV → Heap → Prop} (hQ : ∀ h', Fr h h' [] → Q (.bool true) h') : VD fs ms f_escapementlaw15_same [.ptr q 0, .ptr m 0] h Q := by
  refine vd_begin (af := C_escapementlaw15_same) rfl (Nat.le_of_ble_eq_true rfl) ?_
  set_option smartUnfolding false in conv => whnf
  refine vc_seq true ?_
  set_option smartUnfolding false in conv => whnf
  obtain ⟨x, y, c, d1, d2⟩ := H.first
  refine vc_seq true ?_
  set_option smartUnfolding false in conv => whnf
  refine d1 ?_
  set_option smartUnfolding false in conv => whnf
  refine vc_seq true ?_
  set_option smartUnfolding false in conv => whnf
  refine d2 fun h1 fr1 => ?_
  set_option smartUnfolding false in conv => whnf
  have H1 := H.keep fr1
  refine vc_seq true ?_
  set_option smartUnfolding false in conv => whnf
  refine qjobs_o H1.qa fun h2 v M k1 k2 k3 k4 => ?_
  set_option smartUnfolding false in conv => whnf
  have hM := H.mch.jobs k2
  have H2 := H1.keep k4
  refine vc_seq true ?_
  set_option smartUnfolding false in conv => whnf
  refine brf (by simp) (fun hc => ?_)
  (try rw [hc])
  set_option smartUnfolding false in conv => whnf
  refine brf (by simp) (fun hc => ?_)
  (try rw [hc])
  set_option smartUnfolding false in conv => whnf
  have hcc : (!(c == c)) = false := by simp
  iterate 8 (all_goals (try (refine brf hcc (fun hc => ?_); (try rw [hc]); (set_option smartUnfolding false in conv => whnf))))
  refine mjobs_o H2.ma H2.l4 fun h3 v2 j1 j2 => ?_
  set_option smartUnfolding false in conv => whnf
  have k1' := k1.keep j2
  have hlen := dj_len D D.length
  have hl4 := H.l4
  rw [hM, djI_ids] at k1'
  obtain ⟨z1, f1⟩ := k1'.frz
  obtain ⟨z2, f2⟩ := j1.frz
  iterate 2 (all_goals (try (refine brf hcc (fun hc => ?_); (try rw [hc]); (set_option smartUnfolding false in conv => whnf))))
  refine vd_view (eqInts_same z1 z2 (nl (dj D D.length)) (by rw [nl_len]; omega)) rfl (.cons f1 (.cons f2 .nil)) ?_
  set_option smartUnfolding false in conv => whnf
  iterate 4 (all_goals (try (refine brf hcc (fun hc => ?_); (try rw [hc]); (set_option smartUnfolding false in conv => whnf))))
  have H3 := H2.keep j2
  refine vc_seqV (vc_seq true ?_)
  set_option smartUnfolding false in conv => whnf
  refine vc_block ?_
  refine same_l0 (h0 := h1) (q := q) (m := m) (N := (nl (dj D D.length)).length) (Nat.le_refl _) (by rw [nl_len]; omega) _ 0 h3 _ _ rfl (Nat.zero_le _) rfl k1' (k4.trans j2) ⟨rfl, rfl, rfl, rfl, trivial⟩ ?_
  intro h4 e4 g0 g1 fr4
  show VC fs ms _ _ _ _ _ _
  refine vc_slots 4 [(0, .ptr q 0), (1, .ptr m 0)] ⟨g0, g1, trivial⟩ ?_
  refine vc_seqV (vc_seq true ?_)
  set_option smartUnfolding false in conv => whnf
  refine vc_block ?_
  refine same_l1 (H1.keep fr4) _ (-1) _ rfl (by omega) ⟨rfl, rfl, rfl, trivial⟩ ?_
  intro e5
  show VC fs ms _ _ _ _ _ _
  refine vc_slots 3 [] trivial (vpC_sound (z := true) ?_)
  set_option smartUnfolding false in conv => whnf
  exact hQ h4 (fr1.trans fr4)
end Ir
end Go.Proofs.Ytenafeojcgmnhaa
