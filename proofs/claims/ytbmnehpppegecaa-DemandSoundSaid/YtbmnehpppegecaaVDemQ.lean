/-
  Demand: DemandMore.
-/
import Derived.Test.YtbmnehpppegecaaVDemP
import Derived.Test.YtbmnehpppegecaaVDem
set_option maxRecDepth 100000
set_option linter.unusedSimpArgs false
set_option linter.unusedVariables false
namespace Go.Proofs.Ytbmnehpppegecaa
open Go Ads
namespace Ir

theorem mkT_ok (l : List Tk) : ∀ t, t ∈ mkT l → OkT t := by
  intro t ht
  obtain ⟨u, _, rfl⟩ := List.mem_map.1 ht
  exact mk1_in u
theorem mkT_len (l : List Tk) : (mkT l).length ≤ 4 := by simp [mkT]; omega
theorem zero_view {P : Nat → Prop} {g : Heap} {n : Nat} (hb : P 0) (hg : g.get 0 = some (.cells (ints (List.replicate n 0)) true 0)) : Frz P g (.sl 0 0 n n false) (.fz 2 (ints (List.replicate n 0))) :=
  .row (s := 1) hb hg (flat_ints _).symm (size_ints _) (by simp [ints]) (Nat.le_refl _) (by omega) (fun _ => rfl) (fun _ => rfl) (cl_ints _)

theorem demandMore_c (k : Nat) (l : List Tk) (p n : Int) (hl : l.length < 2 ^ 62) : PC fs ms f_escapementlaw08_DemandMore [.fz k (tks l), .int .i64 p, .int .i64 n] (.bool true) := by
  refine pc_of (by simp [clL, AV.cl, cl_ints, cl_tks]) rfl ?_
  refine vd_start (af := C_escapementlaw08_DemandMore) false rfl (Nat.le_of_ble_eq_true rfl) ?_
  generalize hQ : (fun (v : AV) (_ : Heap) => v = .bool true) = Q
  have hT := mkT_ok l
  have hT4 := mkT_len l
  have hm := made8_c k l hl
  generalize hkk : growK (mkT l).length = kk at *
  generalize hLL : mkT l = L at *
  have h62 : L.length < 2 ^ 62 := by omega
  have hz : ∀ m, m ∈ List.replicate L.length (0 : Int) → 0 ≤ m ∧ m ≤ 32768 := fun m hm => by have := (List.mem_replicate.1 hm).2; omega
  have hzl : (List.replicate L.length (0 : Int)).length = L.length := List.length_replicate ..
  conv => whnf
  refine vd_pure (hm) ?_
  conv => whnf
  refine ⟨_, _, by rw [len_tks]; exact mk_ints (by omega), ?_⟩
  conv => whnf
  refine vd_pure (bring_c p 64 (by omega) (by omega)) ?_
  conv => whnf
  have hp0 := Int.emod_nonneg p (show (64 : Int) ≠ 0 by omega)
  have hp1 := Int.emod_lt_of_pos p (show (0 : Int) < 64 by omega)
  have ep : IntKind.i64.wrap (1 + bring p 64) = 1 + p % 64 := IntWalk.i64_in _ (by simp only [bring]; omega)
  rw [ep]
  refine vd_pure (dhyper_c kk L _ h62) ?_
  rcases hyp_le hT hT4 (show 1 ≤ 1 + p % 64 by omega) (show 1 + p % 64 ≤ 64 by omega) with ⟨he, hh, hh1⟩ | he
  · rw [he]
    have hdv := ((hyp_dvd L (1 + p % 64).toNat _).1 (Nat.dvd_refl _)).2
    generalize hypN L (1 + p % 64).toNat = h at *
    have hdv' : ∀ t, t ∈ L → t.p ∣ (h : Int) := fun t ht => by
      have := hdv t ht
      have ho := hT t ht
      simp only [OkT] at ho
      rw [← Int.toNat_of_nonneg (show 0 ≤ t.p by omega)]
      exact Int.natCast_dvd_natCast.2 this
    have hn0 := Int.emod_nonneg n (show (9000 : Int) ≠ 0 by omega)
    have hn1 := Int.emod_lt_of_pos n (show (0 : Int) < 9000 by omega)
    have en : IntKind.i64.wrap (64 + bring n 9000) = 64 + n % 9000 := IntWalk.i64_in _ (by simp only [bring]; omega)
    conv => whnf
    refine vd_pure (bring_c n 9000 (by omega) (by omega)) ?_
    conv => whnf
    rw [en]
    have hNb : 64 ≤ 64 + n % 9000 ∧ 64 + n % 9000 ≤ 9064 := by omega
    generalize 64 + n % 9000 = N at hNb ⊢
    have ok1 := dOf_ok (n := N) hT hT4 hz hzl (by omega) (by omega)
    have e2 : IntKind.i64.wrap (N + h) = N + h := IntWalk.i64_in _ (by omega)
    have e3 : IntKind.i64.wrap (N + 1) = N + 1 := IntWalk.i64_in _ (by omega)
    have ok2 := dOf_ok (n := N + h) hT hT4 hz hzl (by omega) (by omega)
    have ok3 := dOf_ok (n := N + 1) hT hT4 hz hzl (by omega) (by omega)
    have ok4 := dUse_ok (n := h) hT hT4 hz hzl (by omega) (by omega) hdv'
    have bnd := sum_le (q := jobsP (N + (h : Int))) (fun t ht => ⟨hT t ht, by have := jobs_plain (hT t ht) (show 0 ≤ N + (h : Int) by omega) (by omega); omega⟩) hz (show L.length ≤ 1024 by omega)
    have sum1 := ask_add (q := jobsP (N + h)) (r := jobsP N) (s := fun t => (h : Int) / t.p) L (List.replicate L.length 0) (fun t ht => jobs_hyper (hT t ht) (by omega) (hdv' t ht) (by omega))
    have sum2 := ask_mono (q := jobsP N) (r := jobsP (N + 1)) L (List.replicate L.length 0) (fun t ht => ⟨hT t ht, jobs_mono (hT t ht) (by omega) (by omega)⟩) (fun m hm => (hz m hm).1)
    conv => whnf
    refine vd_view (dof_c kk 2 L (List.replicate L.length 0) _ h62 (by rw [hzl]; exact h62)) rfl (.cons (.clean (by simp [AV.cl, cl_tks])) (.cons (zero_view trivial rfl) (.cons (.clean rfl) .nil))) ?_
    rw [ok1]
    conv => whnf
    rw [e2]
    refine vd_view (dof_c kk 2 L (List.replicate L.length 0) _ h62 (by rw [hzl]; exact h62)) rfl (.cons (.clean (by simp [AV.cl, cl_tks])) (.cons (zero_view trivial rfl) (.cons (.clean rfl) .nil))) ?_
    rw [ok2]
    conv => whnf
    rw [e3]
    refine vd_view (dof_c kk 2 L (List.replicate L.length 0) _ h62 (by rw [hzl]; exact h62)) rfl (.cons (.clean (by simp [AV.cl, cl_tks])) (.cons (zero_view trivial rfl) (.cons (.clean rfl) .nil))) ?_
    rw [ok3]
    conv => whnf
    refine vd_view (duse_c kk 2 L (List.replicate L.length 0) _ h62 (by rw [hzl]; exact h62)) rfl (.cons (.clean (by simp [AV.cl, cl_tks])) (.cons (zero_view trivial rfl) (.cons (.clean rfl) .nil))) ?_
    rw [ok4]
    conv => whnf
    refine brt (by rw [IntWalk.i64_in _ (by show _ ≤ (askP (jobsP N) L (List.replicate L.length 0)).sum + (askP (fun t => (h : Int) / t.p) L (List.replicate L.length 0)).sum ∧ (askP (jobsP N) L (List.replicate L.length 0)).sum + (askP (fun t => (h : Int) / t.p) L (List.replicate L.length 0)).sum ≤ _; omega)]; exact beq_iff_eq.2 sum1) (fun hc => ?_)
    (try rw [hc])
    conv => whnf
    refine brt (by exact decide_eq_true sum2) (fun hc => ?_)
    (try rw [hc])
    conv => whnf
    refine vd_pure (works8_c) ?_
    conv => whnf
    subst hQ
    rfl
  · rw [he]
    conv => whnf
    refine vd_pure works8_c ?_
    conv => whnf
    subst hQ
    rfl
end Ir
end Go.Proofs.Ytbmnehpppegecaa
