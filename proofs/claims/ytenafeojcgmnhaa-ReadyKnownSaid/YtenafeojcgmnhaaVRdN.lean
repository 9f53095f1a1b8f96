/-
  Ready: the document's First and Late.
-/
import Derived.Test.YtenafeojcgmnhaaVRdM
set_option maxRecDepth 100000
set_option linter.unusedSimpArgs false
set_option linter.unusedVariables false
namespace Go.Proofs.Ytenafeojcgmnhaa
open Go Ads
namespace Ir

theorem mfirst_o {h : Heap} {m b es : Nat} {op : Bool} {D : List Int} (hh : MAt h m b es op D) (hD : D.length ≤ 4) {Q : AV → Heap → Prop} (h1 : ∀ h', dj D D.length = [] → Fr h h' [] → Q (.tup [.int .i64 0, .int .i64 0, .bool false]) h')
    (h2 : ∀ h' x l, dj D D.length = x :: l → Fr h h' [] → Q (.tup [.int .i64 ((x : Nat) : Int), .int .i64 (gD D x), .bool true]) h') : VD fs ms f_escapementref15_Queue_First [.ptr m 0] h Q := by
  refine vd_start (af := C_escapementref15_Queue_First) true rfl (Nat.le_of_ble_eq_true rfl) ?_
  set_option smartUnfolding false in conv => whnf
  refine mjobs_o hh hD fun h' v hv fr => ?_
  set_option smartUnfolding false in conv => whnf
  refine op_some hv.read.1 ?_
  set_option smartUnfolding false in conv => whnf
  rw [nl_len]
  have hlt := dj_lt D D.length
  by_cases h0 : (dj D D.length).length = 0
  · refine brt (by rw [h0]; rfl) (fun hc => ?_)
    (try rw [hc])
    set_option smartUnfolding false in conv => whnf
    exact h1 h' (List.eq_nil_of_length_eq_zero h0) fr
  · refine brf (by simp; exact fun e => h0 (by rw [e]; rfl)) (fun hc => ?_)
    (try rw [hc])
    set_option smartUnfolding false in conv => whnf
    obtain ⟨x, l, hd⟩ : ∃ x l, dj D D.length = x :: l := List.exists_cons_of_ne_nil (fun e => h0 (by rw [e]; rfl))
    rw [hd] at hv hlt
    have hx : x < D.length := hlt x List.mem_cons_self
    obtain ⟨b', r1, r2⟩ := hv.read.2 0 (by rw [nl_len]; simp)
    have hh' := hh.keep fr (by simp) (by simp)
    refine ⟨_, r1, ?_⟩
    set_option smartUnfolding false in conv => whnf
    refine ⟨_, r2, ?_⟩
    set_option smartUnfolding false in conv => whnf
    refine ⟨_, hh'.row, ?_⟩
    set_option smartUnfolding false in conv => whnf
    refine ⟨_, r1, ?_⟩
    set_option smartUnfolding false in conv => whnf
    refine ⟨_, r2, ?_⟩
    set_option smartUnfolding false in conv => whnf
    refine ⟨_, idx_slS3 (j := x) hx, ?_⟩
    set_option smartUnfolding false in conv => whnf
    refine ⟨_, hh'.get hx, ?_⟩
    set_option smartUnfolding false in conv => whnf
    exact h2 h' x l hd fr

def latD (D : List Int) (now : Int) (l : List Nat) : List Nat := l.filter fun x => decide (gD D x ≤ now)
theorem latD_take {D : List Int} {now : Int} {l : List Nat} {i : Nat} (h : i < l.length) : nl (latD D now (l.take (i + 1))) = nl (latD D now (l.take i)) ++ (if gD D (l.getD i 0) ≤ now then [((l.getD i 0 : Nat) : Int)] else []) := by
  rw [List.take_succ_eq_append_getElem h, List.getD_eq_getElem?_getD, List.getElem?_eq_getElem h, latD, List.filter_append, nl, List.map_append]
  congr 1
  by_cases hh : gD D l[i] ≤ now <;> simp [hh]
def mlatE (m : Nat) (now : Int) (out v : AV) (i : Nat) : List (Nat × AV) := [(0, .ptr m 0), (1, .int .i64 now), (5, out), (6, v), (7, .int .i64 ((i : Nat) : Int))]
theorem mlate_loop {m b es : Nat} {op : Bool} {D : List Int} {now : Int} {l : List Nat} {v : AV} {h0 : Heap} {B : Nat} {Q : AX → Env → Heap → Prop} (h4 : l.length ≤ 4) (hl : ∀ x ∈ l, x < D.length) (hm : m < h0.next) (hb : b < h0.next) :
    ∀ (k i : Nat) (h : Heap) (out : AV) (env : Env), l.length - i = k → MAt h m b es op D → i ≤ l.length → IRow h0.next h v (nl l) → IRow h0.next h out (nl (latD D now (l.take i))) → (∀ c, offB v c ∨ (offB out c ∧ c < h.next)) → Fr h0 h [] →
    AllAt env (mlatE m now out v i) →
    (∀ (h' : Heap) (out' : AV) (e' : Env), Tr.get e' 5 = some out' → IRow h0.next h' out' (nl (latD D now l)) → Fr h0 h' [] → Q (.exit 0) e' h') →
    VC fs ms B false (.loop L_escapementref15_Queue_Late_0) env h Q := by
  intro k
  induction k using Nat.strongRecOn with
  | ind k ih =>
  intro i h out env hk hh hi hv hr ho fr0 henv hQ
  refine vc_slots 4 (mlatE m now out v i) henv ?_
  refine vc_loop (z := true) ?_
  unfold mlatE
  set_option smartUnfolding false in conv => whnf
  refine op_some hv.read.1 ?_
  set_option smartUnfolding false in conv => whnf
  rw [nl_len]
  refine br (fun hc => ?_) (fun hc => ?_) <;> (try rw [hc]) <;> (set_option smartUnfolding false in conv => whnf)
  · have hlt : i < l.length := by have := of_decide_eq_true hc; omega
    obtain ⟨b', r1, r2⟩ := hv.read.2 i (by rw [nl_len]; exact hlt)
    rw [nl_get] at r2
    have hx : l.getD i 0 < D.length := by
      rw [List.getD_eq_getElem?_getD, List.getElem?_eq_getElem hlt]
      exact hl _ (List.getElem_mem hlt)
    refine ⟨_, hh.row, ?_⟩
    set_option smartUnfolding false in conv => whnf
    refine ⟨_, r1, ?_⟩
    set_option smartUnfolding false in conv => whnf
    refine ⟨_, r2, ?_⟩
    set_option smartUnfolding false in conv => whnf
    refine ⟨_, idx_slS3 hx, ?_⟩
    set_option smartUnfolding false in conv => whnf
    refine ⟨_, hh.get hx, ?_⟩
    set_option smartUnfolding false in conv => whnf
    have hlo := fr0.next
    have hlat := latD_take (D := D) (now := now) hlt
    have hll : (latD D now (l.take i)).length ≤ 4 := by
      have := List.length_filter_le (fun x => decide (gD D x ≤ now)) (l.take i)
      rw [List.length_take] at this
      unfold latD
      omega
    refine br (fun hc => ?_) (fun hc => ?_) <;> (try rw [hc]) <;> (set_option smartUnfolding false in conv => whnf)
    · have hle : gD D (l.getD i 0) ≤ now := of_decide_eq_true hc
      rw [if_pos hle] at hlat
      refine ⟨_, r1, ?_⟩
      set_option smartUnfolding false in conv => whnf
      refine ⟨_, r2, ?_⟩
      set_option smartUnfolding false in conv => whnf
      obtain ⟨v', g', a1, a2, a3, a4, a5⟩ := hr.app hlo (by rw [nl_len]; omega) ((l.getD i 0 : Nat) : Int)
      refine eff_o a1 fun h2 e2 => ?_
      subst e2
      set_option smartUnfolding false in conv => whnf
      have offlo : ∀ c, c < h0.next → offB out c := by
        intro c hc
        rcases hr with ⟨_, rfl⟩ | ⟨b', h1', _, rfl, _⟩
        · intro o n k op e; cases e
        · intro o n k op e; cases e; omega
      have fr2 : Fr h0 h2 [] := ⟨by omega, fun c hc _ => by rw [a4 c (by omega) (offlo c hc)]; exact fr0.keep c hc (by simp)⟩
      have hh2 : MAt h2 m b es op D := ⟨by rw [a4 m hh.lm (offlo m hm)]; exact hh.hm, by rw [a4 b hh.lb (offlo b hb)]; exact hh.hb, hh.ne, Nat.lt_of_lt_of_le hh.lm a3, Nat.lt_of_lt_of_le hh.lb a3⟩
      have hv2 : IRow h0.next h2 v (nl l) := by
        rcases hv with hv | ⟨b', h1', h2', rfl, h4'⟩
        · exact .inl hv
        · have hob : offB out b' := by
            rcases ho b' with h | h
            · exact absurd rfl (h _ _ _ _)
            · exact h.1
          exact .inr ⟨b', h1', by omega, rfl, by rw [a4 b' h2' hob]; exact h4'⟩
      refine ih (l.length - (i + 1)) (by omega) (i + 1) h2 v' _ rfl hh2 (by omega) hv2 (by rw [hlat]; exact a2) (fun c => ?_) fr2 ⟨rfl, rfl, rfl, rfl, inc_slot (by omega), trivial⟩ hQ
      rcases ho c with h | h
      · exact .inl h
      · exact .inr ⟨a5 c h.2, by omega⟩
    · have hle : ¬ gD D (l.getD i 0) ≤ now := of_decide_eq_false hc
      rw [if_neg hle, List.append_nil] at hlat
      refine ih (l.length - (i + 1)) (by omega) (i + 1) h out _ rfl hh (by omega) hv (by rw [hlat]; exact hr) ho fr0 ⟨rfl, rfl, rfl, rfl, inc_slot (by omega), trivial⟩ hQ
  · have hge : i = l.length := by have := of_decide_eq_false hc; omega
    subst hge
    refine hQ h out _ rfl ?_ fr0
    rw [List.take_length] at hr
    exact hr
theorem mlate_o {h : Heap} {m b es : Nat} {op : Bool} {D : List Int} (hh : MAt h m b es op D) (hD : D.length ≤ 4) (now : Int) {Q : AV → Heap → Prop} (hQ : ∀ h' v, IRow h.next h' v (nl (latD D now (dj D D.length))) → Fr h h' [] → Q v h') : VD fs ms f_escapementref15_Queue_Late [.ptr m 0, .int .i64 now] h Q := by
  refine vd_begin (af := C_escapementref15_Queue_Late) rfl (Nat.le_of_ble_eq_true rfl) ?_
  set_option smartUnfolding false in conv => whnf
  refine vc_seq true ?_
  set_option smartUnfolding false in conv => whnf
  refine vc_seq true ?_
  set_option smartUnfolding false in conv => whnf
  refine vc_seq true ?_
  set_option smartUnfolding false in conv => whnf
  refine mjobs_o hh hD fun h1 v k1 k4 => ?_
  set_option smartUnfolding false in conv => whnf
  refine vc_seqV (vc_seq true ?_)
  set_option smartUnfolding false in conv => whnf
  refine vc_block ?_
  have hlen := dj_len D D.length
  refine mlate_loop (D := D) (now := now) (by omega) (dj_lt D D.length) hh.lm hh.lb _ 0 h1 .nils _ rfl (hh.keep k4 (by simp) (by simp)) (Nat.zero_le _) k1 (.inl ⟨rfl, rfl⟩) (fun c => ?_) k4 ⟨rfl, rfl, rfl, rfl, rfl, trivial⟩ ?_
  · rcases k1 with ⟨_, rfl⟩ | ⟨b, _, hb, rfl, _⟩
    · exact .inl fun o n k op e => by cases e
    · by_cases hcb : c = b
      · subst hcb; exact .inr ⟨fun o n k op e => (by cases e), hb⟩
      · exact .inl fun o n k op e => by cases e; exact hcb rfl
  · intro h2 out e2 g4 hi hf
    show VC fs ms _ _ _ _ _ _
    refine vc_slots 3 [(5, out)] ⟨g4, trivial⟩ (vpC_sound (z := true) ?_)
    set_option smartUnfolding false in conv => whnf
    exact hQ h2 out hi hf
end Ir
end Go.Proofs.Ytenafeojcgmnhaa
