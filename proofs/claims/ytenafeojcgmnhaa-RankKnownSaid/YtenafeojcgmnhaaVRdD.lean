/-
  Rank: cut.
-/
import Derived.Test.YtenafeojcgmnhaaVRdC
set_option maxRecDepth 100000
set_option linter.unusedSimpArgs false
set_option linter.unusedVariables false
namespace Go.Proofs.Ytenafeojcgmnhaa
open Go Ads
namespace Ads
theorem eff_o {o : EOp} {args : List AV} {h h' : Heap} {v : AV} {k : AV → Heap → Prop} (hs : eV o args h = some (v, h')) (hq : ∀ h1, h1 = h' → k v h1) : ∃ v h1, eV o args h = some (v, h1) ∧ k v h1 := ⟨v, h', hs, hq h' rfl⟩
end Ads
namespace Ir

theorem len_pred {M : List Id} {x : Id} : IntKind.i64.wrap (((M ++ [x]).length : Int) - 1) = ((M.length : Nat) : Int) ∨ 2 ^ 62 ≤ M.length := by
  by_cases h : M.length < 2 ^ 62
  · left
    rw [List.length_append, show (((M.length + [x].length : Nat)) : Int) - 1 = ((M.length : Nat) : Int) by simp, wrap_nat (by omega)]
  · right; omega
theorem cut_o {h : Heap} {p r cap : Nat} {op : Bool} {M : List Id} {x : Id} {P : Nat → Nat} {rest : List AV} {a : Nat} (hh : HAt h p r cap op (M ++ [x]) P rest) (ha : a < M.length + 1) (hN : M.length + 1 < 2 ^ 60) (hc : M.length + 1 ≤ cap) (hf : PlF (M ++ [x]) P) (hp : Hp (M ++ [x])) {Q : AV → Heap → Prop}
    (hQ : ∀ h' L' P', HAt h' p r cap op L' P' ((ob x).cells ++ rest) → L'.length = M.length → PlF L' P' → Hp L' → (∀ y, y ∈ L' ↔ y ∈ M ++ [x] ∧ y.1 ≠ (gI (M ++ [x]) a).1) → Fr h h' [p, r] → Q (.tup []) h') : VD fs ms f_rank_heaped_cut [.ptr p 0, .int .i64 ((a : Nat) : Int)] h Q := by
  have hl : (M ++ [x]).length = M.length + 1 := by simp
  have hlp := (len_pred (M := M) (x := x)).resolve_right (by omega)
  refine vd_start (af := C_rank_heaped_cut) true rfl (Nat.le_of_ble_eq_true rfl) ?_
  set_option smartUnfolding false in conv => whnf
  refine ⟨_, hh.row, ?_⟩
  set_option smartUnfolding false in conv => whnf
  refine ⟨_, hh.row, ?_⟩
  set_option smartUnfolding false in conv => whnf
  rw [hlp]
  refine ⟨_, idx_slS3 (by omega), ?_⟩
  set_option smartUnfolding false in conv => whnf
  refine ⟨_, hh.one (by omega), ?_⟩
  set_option smartUnfolding false in conv => whnf
  rw [gI_end]
  have n1 : h.next ≠ p := by have := hh.lp; omega
  have n2 : h.next ≠ r := by have := hh.lr; omega
  refine eff_o (sto_o get_new_same rfl (Nat.le_refl _) rfl) fun h1 e1 => ?_
  set_option smartUnfolding false in conv => whnf
  have hh1 : HAt h1 p r cap op (M ++ [x]) P rest := by rw [e1]; exact (hh.new _).set _ n1 n2
  have hb1 : h1.get h.next = some (.cells (ob x).cells true 0) := by rw [e1, get_set_same]; rfl
  have fr1 : Fr h h1 [p, r] := by rw [e1]; exact ((Fr.refl h [p, r]).new (x := _)).setn (Nat.le_refl _)
  have lt1 : h.next < h1.next := by rw [e1]; exact Nat.lt_succ_self _
  clear e1
  refine ⟨_, hh1.row, ?_⟩
  set_option smartUnfolding false in conv => whnf
  refine ⟨_, idx_slS3 (by omega), ?_⟩
  set_option smartUnfolding false in conv => whnf
  refine ⟨_, hh1.id (by omega), ?_⟩
  set_option smartUnfolding false in conv => whnf
  have hsm := hf.small a (by omega)
  refine ⟨_, idx_arr (o := 1) hsm, ?_⟩
  set_option smartUnfolding false in conv => whnf
  refine eff_o (sto_o hh1.hp rfl (by rw [List.length_cons, plc_len]; show 1 + (gI (M ++ [x]) a).1 * 1 + 1 ≤ _; omega) rfl) fun h2 e2 => ?_
  set_option smartUnfolding false in conv => whnf
  have hh2 : HAt h2 p r cap op (M ++ [x]) (upd P (gI (M ++ [x]) a).1 0) rest := by rw [e2]; exact hh1.setP hsm 0 rfl
  have hb2 : h2.get h.next = some (.cells (ob x).cells true 0) := by rw [e2, get_set_ne n1]; exact hb1
  have fr2 : Fr h h2 [p, r] := by rw [e2]; exact fr1.set (by simp)
  have lt2 : h.next < h2.next := by rw [e2]; exact lt1
  clear e2
  refine ⟨_, hh2.row, ?_⟩
  set_option smartUnfolding false in conv => whnf
  refine ⟨_, pre_sl (by omega), ?_⟩
  set_option smartUnfolding false in conv => whnf
  refine eff_o (sto_o hh2.hp rfl (by rw [List.length_cons]; show 0 + 1 ≤ _; omega) rfl) fun h3 e3 => ?_
  set_option smartUnfolding false in conv => whnf
  have hh3 : HAt h3 p r cap op M (upd P (gI (M ++ [x]) a).1 0) ((ob x).cells ++ rest) := by rw [e3]; exact hh2.pop rfl
  have hb3 : h3.get h.next = some (.cells (ob x).cells true 0) := by rw [e3, get_set_ne n1]; exact hb2
  have fr3 : Fr h h3 [p, r] := by rw [e3]; exact fr2.set (by simp)
  have lt3 : h.next < h3.next := by rw [e3]; exact lt2
  clear e3
  refine br (fun hc => ?_) (fun hc => ?_) <;> (try rw [hc]) <;> (set_option smartUnfolding false in conv => whnf)
  · have hc' : a = M.length := by simp at hc; omega
    subst hc'
    refine hQ h3 M _ hh3 rfl ?_ (hp_pre hp) (last_mem hf) fr3
    rw [gI_end]
    exact cut_last hf
  · have hc' : a ≠ M.length := by simp at hc; omega
    have ha' : a < M.length := by omega
    refine ⟨_, ldN hb3 (Nat.le_refl _), ?_⟩
    set_option smartUnfolding false in conv => whnf
    have hxs : x.1 < 64 := by have := hf.small M.length (by omega); rwa [gI_end] at this
    refine lay_o (x := x) hh3 ha' hxs (by omega) fun h4 hh4 fr4 => ?_
    set_option smartUnfolding false in conv => whnf
    have hb4 : h4.get h.next = some (.cells (ob x).cells true 0) := by rw [fr4.keep _ lt3 (by simp [n1, n2])]; exact hb3
    rw [gI_app ha'] at hh4
    have hpf := cut_mid ha' hf
    refine up_o hh4 (by rw [List.length_set]; exact ha') (by rw [List.length_set]; omega) (hpf.vac (by rw [List.length_set]; exact ha')) (cut_hup ha' hp) fun h5 L5 P5 a5 hh5 k1 k2 k3 k4 k5 k6 k7 fr5 => ?_
    set_option smartUnfolding false in conv => whnf
    rw [List.length_set] at k1
    have hb5 : h5.get h.next = some (.cells (ob x).cells true 0) := by rw [fr5.keep _ (Nat.lt_of_lt_of_le lt3 fr4.next) (by simp [n1, n2])]; exact hb4
    refine ⟨_, ld1 hb5 rfl, ?_⟩
    set_option smartUnfolding false in conv => whnf
    refine ⟨_, idx_arr (o := 1) hxs, ?_⟩
    set_option smartUnfolding false in conv => whnf
    refine ⟨_, hh5.place hxs, ?_⟩
    set_option smartUnfolding false in conv => whnf
    have hpa := k3.pl a5 k2
    rw [k5, gI_at ha'] at hpa
    rw [hpa, show IntKind.i64.wrap (((a5 + 1 : Nat) : Int) - 1) = ((a5 : Nat) : Int) by rw [show ((a5 + 1 : Nat) : Int) - 1 = ((a5 : Nat) : Int) by omega, wrap_nat (by omega)]]
    refine down_o hh5 k2 (by omega) (k3.vac k2) k4 fun h6 L6 P6 hh6 j1 j2 j3 j4 fr6 => ?_
    set_option smartUnfolding false in conv => whnf
    refine hQ h6 L6 P6 hh6 (by omega) j2 j3 (fun y => ?_) (fr3.trans (fr4.trans (fr5.trans fr6)))
    rw [j4.mem, k6.mem]
    exact cut_mem ha' hf y
end Ir
end Go.Proofs.Ytenafeojcgmnhaa
