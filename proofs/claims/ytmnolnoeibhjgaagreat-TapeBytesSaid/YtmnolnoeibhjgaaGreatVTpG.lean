/-
  Tape: the statement TapeBytes.
-/
import Derived.Test.YtmnolnoeibhjgaaGreatVTpF
set_option maxRecDepth 100000
set_option linter.unusedSimpArgs false
set_option linter.unusedVariables false
namespace Go.Proofs.YtmnolnoeibhjgaaGreat
open Go Ads
namespace Ads
theorem slice_fz {k n s : Nat} {l : List AV} (hs : allSize s l = true) (hn : n ≤ l.length) : pV (.slice s false true false) [.fz k l, .int .i64 ((n : Nat) : Int)] = some (.fz (sliceKind k false n l.length l.length) (l.take n)) := by
  have hb : bounds l.length l.length false true false [.int .i64 ((n : Nat) : Int)] = some (0, n, l.length) := by
    have h0 : asNat (.int .i64 ((n : Nat) : Int)) = some n := by simp [asNat]
    simp only [bounds, h0, Option.map_some]
    rw [Nat.ble_eq_true_of_le (Nat.zero_le _), Nat.ble_eq_true_of_le hn, Nat.ble_eq_true_of_le (Nat.le_refl _)]
    rfl
  show sliceV s false true false k l [.int .i64 ((n : Nat) : Int)] = _
  rw [sliceV, hb]
  have : (Nat.beq 0 l.length && Nat.beq k 0 && !Nat.beq 0 0) = false := by simp
  simp only [this, cond_false, hs, cond_true, List.drop_zero, Nat.sub_zero]
theorem min_val (n m : Nat) : (bif decide ((m : Int) < (n : Int)) then (m : Int) else (n : Int)) = ((min n m : Nat) : Int) := by
  by_cases h : (m : Int) < n
  · rw [decide_eq_true h]
    simp only [cond_true]
    omega
  · rw [decide_eq_false h]
    simp only [cond_false]
    omega
end Ads
namespace Ir
def cut40 (x : TCmd) : TCmd := { x with kk := sliceKind x.kk false (min x.ops.length 40) x.ops.length x.ops.length, ops := x.ops.take (min x.ops.length 40) }
def in40 (l : List TCmd) : List TCmd := (l.take 40).map cut40
theorem in40_len (l : List TCmd) : (in40 l).length = min 40 l.length := by simp [in40]
theorem in40_ops {l : List TCmd} : ∀ x ∈ in40 l, x.ops.length < 2 ^ 62 := by
  intro x hx
  obtain ⟨y, _, rfl⟩ := List.mem_map.1 hx
  show (y.ops.take (min y.ops.length 40)).length < _
  rw [List.length_take]
  omega
theorem flat_tcm (x : TCmd) : flatL (tcm x).cells = true := rfl
theorem in40_next {l : List TCmd} {j : Nat} (hj : j < l.length) (h40 : j < 40) : tcms ((in40 l).take (j + 1)) = tcms ((in40 l).take j) ++ [tcm (cut40 l[j])] := by
  have hlt : j < (in40 l).length := by rw [in40_len]; omega
  rw [take_next hlt]
  have : (in40 l)[j] = cut40 l[j] := by simp [in40]
  rw [this, tcms, List.map_append]
  rfl
theorem GR.own {s lo : Nat} {h : Heap} {v : AV} {M : List AV} (hr : GR s lo h v M) {d : Nat} (ho : OwnB v d) : lo ≤ d ∧ d < h.next := by
  obtain ⟨o, n, c, p, rfl⟩ := ho
  rcases hr with ⟨_, h⟩ | ⟨_, b, h1, h2, h3, _⟩
  · simp at h
  · simp only [AV.sl.injEq] at h3
    obtain ⟨rfl, _⟩ := h3
    exact ⟨h1, h2⟩
theorem GR.appO {s bytes lo : Nat} {h : Heap} {v : AV} {M : List AV} (hr : GR s lo h v M) {x : AV} (hx : x.cells.length = s) (hf : flatL x.cells = true) (hs : allSize s M = true) (hl : (M.length + 1) * bytes ≤ 140737488355328) (hm : M.length + 1 ≤ 140737488355328) :
    ∃ v' g', eV (.append s bytes) [v, .sl h.next 0 1 1 false] (h.new (.cells x.cells true 0)) = some (v', g') ∧ GR s h.next g' v' (M ++ [x]) ∧ h.next ≤ g'.next ∧ ∀ d, d < h.next → ¬ OwnB v d → g'.get d = h.get d := by
  have hsrc : srcV s (h.new (.cells x.cells true 0)) (.sl h.next 0 1 1 false) = some (1, x.cells) := src_nv get_new_same (by omega)
  have hfa : flatCells (M ++ [x]) = flatCells M ++ x.cells := by rw [flat_app]; simp [flatCells]
  rcases hr with ⟨h1, h2⟩ | ⟨hne0, b, h1, h2, h3, h4⟩
  · subst h1 h2
    have := app_nilsG (bytes := bytes) hsrc hf (by simpa using hl) (by omega)
    rw [if_neg (by omega)] at this
    refine ⟨_, _, this, .inr ⟨by simp, h.next + 1, by omega, Nat.lt_succ_self _, rfl, ?_⟩, by show h.next ≤ h.next + 1 + 1; omega, fun c hc _ => ?_⟩
    · rw [hfa]; exact get_new_same (h := h.new (.cells x.cells true 0))
    · exact (get_new_ne (h := h.new (.cells x.cells true 0)) (show c < h.next + 1 by omega)).trans (get_new_ne (by omega))
  · subst h3
    have hg : (h.new (.cells x.cells true 0)).get b = some (.cells (flatCells M) true s) := by rw [get_new_ne h2]; exact h4
    refine ⟨_, _, app_oneB hg (flat_size hs) hsrc hf hl hm, .inr ⟨by simp, h.next + 1, by omega, Nat.lt_succ_self _, by rw [List.length_append]; rfl, ?_⟩, by show h.next ≤ h.next + 1 + 1; omega, fun c hc ho => ?_⟩
    · have := get_new_same (h := (h.new (.cells x.cells true 0)).del b) (x := .cells (flatCells M ++ x.cells) true s)
      rw [show ((h.new (.cells x.cells true 0)).del b).next = h.next + 1 from rfl] at this
      rw [this, hfa]
    · have hne : c ≠ b := by rintro rfl; exact ho ⟨_, _, _, _, rfl⟩
      exact (get_new_ne (h := (h.new (.cells x.cells true 0)).del b) (show c < h.next + 1 by omega)).trans ((get_del_ne2 hne).trans (get_new_ne (by omega)))
theorem lawb_l {h0 : Heap} {k : Nat} {l : List TCmd} (hl : l.length < 2 ^ 62) (hops : ∀ x ∈ l, x.ops.length < 2 ^ 62) {B : Nat} {Q : AX → Env → Heap → Prop} (hQ : ∀ e' h' v, GR 6 h0.next h' v (tcms (in40 l)) → Fr h0 h' [] → Tr.get e' 3 = some v → Q (.exit 0) e' h') :
    ∀ (m j : Nat) (h : Heap) (env : Env) (v : AV), (in40 l).length - j = m → j ≤ (in40 l).length → GR 6 h0.next h v (tcms ((in40 l).take j)) → Fr h0 h [] →
      AllAt env [(3, v), (0, .fz k (tcms l)), (4, .int .i64 ((j : Nat) : Int))] →
      VC fs ms B false (.loop L_escapementlaw28_TapeBytes_0) env h Q := by
  have hil := in40_len l
  intro m
  induction m with
  | zero =>
    intro j h env v hm hj hr fr henv
    have hjl : j = (in40 l).length := by omega
    generalize hJ : ((j : Nat) : Int) = J at henv
    refine vc_slots 5 _ henv ?_
    refine vc_loopV (vpC_sound (z := true) ?_)
    set_option smartUnfolding false in conv => whnf
    refine br (fun hc => ?_) (fun hc => ?_) <;> (try rw [hc]) <;> (set_option smartUnfolding false in conv => whnf)
    · have hc1 : j < l.length := by have := of_decide_eq_true hc; rw [len_tcms] at this; omega
      refine brf (by simp; omega) (fun hc => ?_)
      (try rw [hc])
      set_option smartUnfolding false in conv => whnf
      exact hQ _ h v (by rw [hjl, List.take_length] at hr; exact hr) fr rfl
    · exact hQ _ h v (by rw [hjl, List.take_length] at hr; exact hr) fr rfl
  | succ m ih =>
    intro j h env v hm hj hr fr henv
    have hlt : j < l.length := by omega
    have h40 : j < 40 := by omega
    have hix := idx_tcm (k := k) hlt
    have hox := hops _ (List.getElem_mem hlt)
    have hnx := in40_next hlt h40
    generalize hX : l[j] = x at *
    have hcl : (cut40 x).ops.length < 2 ^ 62 := by
      show (x.ops.take (min x.ops.length 40)).length < _
      rw [List.length_take]
      omega
    generalize hJ : ((j : Nat) : Int) = J at henv hix
    refine vc_slots 5 _ henv ?_
    refine vc_loopV (vc_seq true ?_)
    set_option smartUnfolding false in conv => whnf
    refine brt (by simp [len_tcms]; omega) (fun hc => ?_)
    (try rw [hc])
    set_option smartUnfolding false in conv => whnf
    refine brt (by simp; omega) (fun hc => ?_)
    (try rw [hc])
    set_option smartUnfolding false in conv => whnf
    refine vc_seqV (vc_block (vc_seq true ?_))
    set_option smartUnfolding false in conv => whnf
    refine ⟨_, hix, ?_⟩
    set_option smartUnfolding false in conv => whnf
    refine ⟨tcm x, rfl, ?_⟩
    set_option smartUnfolding false in conv => whnf
    refine eff_o (sto_o get_new_same rfl (Nat.le_refl _) rfl) fun h1 e1 => ?_
    have h1c : h1.get h.next = some (.cells (tcm x).cells true 0) := by rw [e1, get_set_same]; rfl
    have h1r : GR 6 h0.next h1 v (tcms ((in40 l).take j)) := by
      rw [e1]
      exact hr.keep (T := []) (((Fr.refl h []).new).setn (Nat.le_refl _)) (by simp)
    have h1f : Fr h0 h1 [] := by rw [e1]; exact fr.new.setn fr.next
    have h1n : h1.next = h.next + 1 := by rw [e1]; rfl
    clear e1
    set_option smartUnfolding false in conv => whnf
    refine vc_seq true ?_
    set_option smartUnfolding false in conv => whnf
    refine ⟨.fz x.kk (tops x.ops), ld1 h1c rfl, ?_⟩
    set_option smartUnfolding false in conv => whnf
    refine ⟨.fz x.kk (tops x.ops), ld1 h1c rfl, ?_⟩
    set_option smartUnfolding false in conv => whnf
    have hsl : pV (.slice 3 false true false) [.fz x.kk (tops x.ops), .int .i64 (bif decide ((40 : Int) < (((tops x.ops).length : Nat) : Int)) then (40 : Int) else (((tops x.ops).length : Nat) : Int))] = some (.fz (cut40 x).kk (tops (cut40 x).ops)) := by
      have h2 : (bif decide ((40 : Int) < (((tops x.ops).length : Nat) : Int)) then (40 : Int) else (((tops x.ops).length : Nat) : Int)) = ((min (tops x.ops).length 40 : Nat) : Int) := min_val (tops x.ops).length 40
      rw [h2, slice_fz (size_tops x.ops) (Nat.min_le_left _ _), len_tops]
      simp [cut40, tops, List.map_take]
    refine ⟨_, hsl, ?_⟩
    set_option smartUnfolding false in conv => whnf
    refine eff_o (sto_o h1c rfl (Nat.le_refl _) rfl) fun h2 e2 => ?_
    have h2c : h2.get h.next = some (.cells (tcm (cut40 x)).cells true 0) := by rw [e2, get_set_same]; rfl
    have h2r : GR 6 h0.next h2 v (tcms ((in40 l).take j)) := by
      rw [e2]
      have fn := fr.next
      rcases h1r with hw | ⟨hne0, b, g1, g2, g3, g4⟩
      · exact .inl hw
      · rcases hr with ⟨hw, _⟩ | ⟨_, b', k1, k2, k3, k4⟩
        · exact absurd hw hne0
        · rw [g3] at k3
          simp only [AV.sl.injEq] at k3
          obtain ⟨rfl, _⟩ := k3
          exact .inr ⟨hne0, b, g1, g2, g3, (get_set_ne (by omega)).trans g4⟩
    have h2f : Fr h0 h2 [] := by rw [e2]; exact h1f.setn fr.next
    have h2n : h2.next = h.next + 1 := by rw [e2]; exact h1n
    clear e2
    set_option smartUnfolding false in conv => whnf
    refine vc_seq true ?_
    set_option smartUnfolding false in conv => whnf
    refine ⟨tcm (cut40 x), ldN h2c (Nat.le_refl _), ?_⟩
    set_option smartUnfolding false in conv => whnf
    have htl : ((in40 l).take j).length ≤ 40 := by rw [List.length_take]; omega
    obtain ⟨v', g', ha, hr3, hn3, hk3⟩ := GR.appO (bytes := 64) h2r (x := tcm (cut40 x)) rfl (flat_tcm _) (size_tcms _) (by rw [len_tcms]; omega) (by rw [len_tcms]; omega)
    rw [← hnx] at hr3
    refine ⟨_, _, ha, ?_⟩
    have fn := fr.next
    have h3c : g'.get h.next = some (.cells (tcm (cut40 x)).cells true 0) := (hk3 _ (by omega) (fun hw => by have := (GR.own hr hw).2; omega)).trans h2c
    have h3f : Fr h0 g' [] := h2f.app hn3 (fun c hc => hk3 c (by omega) (fun hw => by have := (GR.own h2r hw).1; omega))
    set_option smartUnfolding false in conv => whnf
    refine vc_frz [h.next] (i := 5) (v := .ptr h.next 0) (v' := .fp (tcm (cut40 x)).cells 0) rfl (.ptr' (by simp) h3c (.clean (cells_cl (cl_tcm (cut40 x))))) ?_
    have h4r : GR 6 h0.next (delAll [h.next] g') v' (tcms ((in40 l).take (j + 1))) := by
      rcases hr3 with hw | ⟨hne0, b, g1, g2, g3, g4⟩
      · exact .inl hw
      · exact .inr ⟨hne0, b, by omega, by rw [delAll_next]; exact g2, g3, by rw [delAll_get, if_neg (by simp; omega)]; exact g4⟩
    have h4f : Fr h0 (delAll [h.next] g') [] := fr_delB (by simp; omega) h3f
    generalize delAll [h.next] g' = H at *
    refine vc_slots 5 [(3, v'), (0, .fz k (tcms l)), (4, .int .i64 J), (5, .fp (tcm (cut40 x)).cells 0)] ⟨rfl, rfl, rfl, by rw [Tr.get_set, if_pos rfl], trivial⟩ ?_
    have h3l : rV (.loadN 6) [.fp (tcm (cut40 x)).cells 0] H = some (tcm (cut40 x)) := rfl
    refine vpC_sound (z := true) ?_
    set_option smartUnfolding false in conv => whnf
    refine ⟨tcm (cut40 x), h3l, ?_⟩
    set_option smartUnfolding false in conv => whnf
    refine vd_pure (chk_c _ hcl) ?_
    set_option smartUnfolding false in conv => whnf
    refine ⟨tcm (cut40 x), h3l, ?_⟩
    set_option smartUnfolding false in conv => whnf
    refine vd_pure (refchk_c _ hcl) ?_
    set_option smartUnfolding false in conv => whnf
    refine ⟨winOk_of (by (set_option smartUnfolding false in conv => whnf); repeat' (first | exact trivial | (exact ⟨rfl, rfl, .inr ⟨_, _, rfl⟩⟩) | (refine ⟨rfl, rfl, .inl ⟨rfl, fun o ho => ?_⟩⟩; cases ho; first | rfl | exact h3l) | (exact ⟨rfl, .inr ⟨_, _, rfl⟩⟩) | (refine ⟨rfl, .inl ⟨rfl, fun i o hi ho => ?_⟩⟩; cases hi; cases ho; first | rfl | exact h3l) | (refine And.intro (fun hon => (Bool.false_ne_true hon).elim) ?_ <;> set_option smartUnfolding false in conv => whnf) | (refine And.intro (fun _ => ?_) ?_ <;> set_option smartUnfolding false in conv => whnf) | (refine And.intro ?_ ?_ <;> set_option smartUnfolding false in conv => whnf))), ?_⟩
    set_option smartUnfolding false in conv => whnf
    refine brf (by simp) (fun hc => ?_)
    (try rw [hc])
    set_option smartUnfolding false in conv => whnf
    refine vc_slots 5 [(3, v'), (0, .fz k (tcms l)), (4, .int .i64 J)] ⟨rfl, rfl, rfl, trivial⟩ ?_
    refine vpC_sound (z := true) ?_
    set_option smartUnfolding false in conv => whnf
    refine ih (j + 1) H _ v' (by omega) (by omega) h4r h4f ⟨rfl, rfl, ?_, trivial⟩
    subst hJ
    exact inc_slot (by omega)
theorem tapeBytes_c (hw : PC fs ms f_escapementlaw28_works [] (.bool true)) (k : Nat) (l : List TCmd) (hl : l.length < 2 ^ 62) (hops : ∀ x ∈ l, x.ops.length < 2 ^ 62) : PC fs ms f_escapementlaw28_TapeBytes [.fz k (tcms l)] (.bool true) := by
  refine pc_of (by simp [clL, AV.cl, cl_tcms]) rfl ?_
  refine vd_begin (af := C_escapementlaw28_TapeBytes) rfl (Nat.le_of_ble_eq_true rfl) ?_
  generalize hQ : (fun (v : AV) (_ : Heap) => v = .bool true) = Q
  set_option smartUnfolding false in conv => whnf
  refine vc_seq true ?_
  set_option smartUnfolding false in conv => whnf
  refine vc_seq true ?_
  set_option smartUnfolding false in conv => whnf
  refine vc_seqV (vc_seq true ?_)
  set_option smartUnfolding false in conv => whnf
  refine vc_block ?_
  have hil := in40_len l
  refine lawb_l (h0 := ⟨0, .nil⟩) (k := k) hl hops ?_ (in40 l).length 0 _ _ .nils rfl (Nat.zero_le _) (.inl ⟨rfl, rfl⟩) (Fr.refl _ _) ⟨rfl, rfl, rfl, trivial⟩
  intro e' h' v hr fr h3
  show VC fs ms _ false _ _ _ _
  obtain ⟨bs, hf, hbs⟩ := hr.frz (size_tcms _) (cl_tcms _)
  refine vc_frz bs h3 hf ?_
  refine vc_slots 3 [(3, .fz (growK (tcms (in40 l)).length) (tcms (in40 l)))] ⟨by rw [Tr.get_set, if_pos rfl], trivial⟩ ?_
  generalize delAll bs h' = H
  refine vpC_sound (z := true) ?_
  set_option smartUnfolding false in conv => whnf
  refine bytes_c _ _ (by omega) in40_ops fun va h1 hr1 fr1 => ?_
  set_option smartUnfolding false in conv => whnf
  refine rbytes_c _ _ (by omega) in40_ops fun vb h2 hr2 fr2 => ?_
  set_option smartUnfolding false in conv => whnf
  refine eqBytes_g (hr1.keep fr2 (by simp)) hr2 ?_
  set_option smartUnfolding false in conv => whnf
  refine brt (by simp) (fun hc => ?_)
  (try rw [hc])
  set_option smartUnfolding false in conv => whnf
  refine vd_pure hw ?_
  set_option smartUnfolding false in conv => whnf
  subst hQ
  rfl
end Ir
end Go.Proofs.YtmnolnoeibhjgaaGreat
