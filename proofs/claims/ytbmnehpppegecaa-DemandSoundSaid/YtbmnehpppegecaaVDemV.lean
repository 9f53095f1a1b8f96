/-
  DemandSound: the whole.
-/
import Derived.Test.YtbmnehpppegecaaVDemU
set_option maxRecDepth 100000
set_option linter.unusedSimpArgs false
set_option linter.unusedVariables false
namespace Go.Proofs.Ytbmnehpppegecaa
open Go Ads
namespace Ir

theorem demandSound_c (k k' : Nat) (l : List Tk) (later : List Int) (fr : Int) (hl : l.length < 2 ^ 62) (hlat : later.length ≤ 17592186044416) : PC fs ms f_escapementlaw08_DemandSound [.fz k (tks l), .fz k' (ints later), .int .i64 fr] (.bool true) := by
  refine pc_of (by simp [clL, AV.cl, cl_ints, cl_tks]) rfl ?_
  refine vd_start (af := C_escapementlaw08_DemandSound) false rfl (Nat.le_of_ble_eq_true rfl) ?_
  generalize hQ : (fun (v : AV) (_ : Heap) => v = .bool true) = Q
  have hT := mkT_ok l
  have hT4 := mkT_len l
  have hm := made8_c k l hl
  generalize hkk : growK (mkT l).length = kk at *
  generalize hLL : mkT l = L at *
  have h62 : L.length < 2 ^ 62 := by omega
  conv => whnf
  refine vd_pure (works8_c) ?_
  conv => whnf
  refine vd_pure (hm) ?_
  conv => whnf
  refine ⟨_, _, by rw [len_tks]; exact mk_ints (by omega), ?_⟩
  conv => whnf
  refine vd_pure (bring_c fr 200 (by omega) (by omega)) ?_
  conv => whnf
  have hb : 0 ≤ bring fr 200 ∧ bring fr 200 < 200 := ⟨Int.emod_nonneg fr (by omega), Int.emod_lt_of_pos fr (by omega)⟩
  generalize bring fr 200 = b at *
  refine vc_lit (B := 0) (H := twoH (fillR (moreS fr L.length) 0) []) (d := 5) (l := [(0, .fz kk (tks L)), (1, .fz k' (ints later)), (2, .int .i64 fr), (7, .sl 0 0 L.length L.length false), (8, .int .i64 b), (9, twoV 1 0), (10, twoV 2 0), (11, .int .i64 ((0 : Nat) : Int))]) (two_nil _) id (by repeat' (first | exact trivial | refine renAt_sl rfl (by omega) ?_ | refine renAt_ptr rfl (by omega) ?_ | refine renAt_yield rfl (by omega) ?_ | refine renAt_cl rfl (by first | rfl | simp [clL, AV.cl, cl_ints, cl_tks]) ?_ | refine renAt_cl (inc_slot (by omega)) rfl ?_)) ⟨by omega, ⟨_, rfl, renB_ints (by rw [fill_zero, more_len])⟩, trivial⟩ (by intro b c hb hc _; simp at hb hc; omega) (by intro b hb; omega) (by omega) ?_
  refine sound_out hT hT4 hb hlat ?_
  intro J hJ
  have hM := more_len fr L.length
  have hMi := more_in fr L.length
  have hJin := all_in (later := later) hT hMi hb L.length
  have hJl := hJin.1
  have hJs := fun n => sound_plain (later := later) (b := b) (n := n) hT (fun m hm => (hMi m hm).1) hM L.length (Nat.le_refl _)
  rw [← hJ] at hJin hJl hJs
  clear hJ
  have hfe : fillR (moreS fr L.length) L.length = moreS fr L.length := by
    have := fill_end (moreS fr L.length)
    rwa [hM] at this
  rw [hfe]
  have hdem := fun t (h0 : 0 ≤ t) (h1 : t ≤ 1048576) => dOf_ok (n := t) hT hT4 (fun m hm => by have := hMi m hm; omega) hM h0 h1
  generalize moreS fr L.length = M at *
  conv => whnf
  refine vc_frz [1] (i := 9) rfl (two_frz1 M J) ?_
  refine vc_frz [2] (i := 10) rfl (two_frz2 M J) ?_
  refine vc_frz [0] (i := 7) rfl (two_frz0 M hM J) ?_
  have hE : (endsJ J).length = J.length := by simp [endsJ]
  have hA : (asksJ J).length = J.length := by simp [asksJ]
  have hnx := fun n j (hj : j < J.length) => sumE_next n (J := J) (j := j) hj
  generalize growK J.length = g at *
  refine vc_to0 5 [(0, .fz kk (tks L)), (7, .fz 2 (ints M)), (9, .fz g (ints (endsJ J))), (10, .fz g (ints (asksJ J))), (14, .int .i64 ((0 : Nat) : Int))] (by repeat' (first | exact trivial | refine renAt_sl rfl (by omega) ?_ | refine renAt_ptr rfl (by omega) ?_ | refine renAt_yield rfl (by omega) ?_ | refine renAt_cl rfl (by first | rfl | simp [clL, AV.cl, cl_ints, cl_tks]) ?_ | refine renAt_cl (inc_slot (by omega)) rfl ?_)) ?_
  refine for_row 5 200 (fun _ => True) (fun t => [(0, .fz kk (tks L)), (7, .fz 2 (ints M)), (9, .fz g (ints (endsJ J))), (10, .fz g (ints (asksJ J))), (14, .int .i64 (t : Nat))]) ?_ ?_ trivial
  · intro t ht _
    have hs := hJs (t : Nat)
    rw [List.take_of_length_le (by simp [askP]; omega)] at hs
    have hnxt := hnx (t : Nat)
    have hrng := fun j => sumE_in (t : Nat) (J.take j) (fun x hx => by have := hJin.2 x (List.mem_of_mem_take hx); omega)
    have hd := hdem (t : Nat) (by omega) (by omega)
    show vpC fs ms 0 false false L_escapementlaw08_DemandSound_2 (ek 5 [(0, .fz kk (tks L)), (7, .fz 2 (ints M)), (9, .fz g (ints (endsJ J))), (10, .fz g (ints (asksJ J))), (14, .int .i64 ((t : Nat) : Int))]) (hk 0 []) _
    generalize hTt : ((t : Nat) : Int) = T at *
    conv => whnf
    refine brt (by simp; omega) (fun hc => ?_)
    (try rw [hc])
    conv => whnf
    refine vc_to0 5 [(0, .fz kk (tks L)), (7, .fz 2 (ints M)), (9, .fz g (ints (endsJ J))), (10, .fz g (ints (asksJ J))), (14, .int .i64 T), (15, .int .i64 (sumE T (J.take 0))), (16, .int .i64 ((0 : Nat) : Int))] (by repeat' (first | exact trivial | refine renAt_sl rfl (by omega) ?_ | refine renAt_ptr rfl (by omega) ?_ | refine renAt_yield rfl (by omega) ?_ | refine renAt_cl rfl (by first | rfl | simp [clL, AV.cl, cl_ints, cl_tks]) ?_ | refine renAt_cl (inc_slot (by omega)) rfl ?_)) ?_
    refine for_row 5 J.length (fun _ => True) (fun j => [(0, .fz kk (tks L)), (7, .fz 2 (ints M)), (9, .fz g (ints (endsJ J))), (10, .fz g (ints (asksJ J))), (14, .int .i64 T), (15, .int .i64 (sumE T (J.take j))), (16, .int .i64 (j : Nat))]) ?_ ?_ trivial
    · intro j hj _
      have hn := hnxt j hj
      have h0 := hrng j
      have h1 := hrng (j + 1)
      simp only [List.length_take] at h0 h1
      generalize sumE T (J.take (j + 1)) = S1 at *
      generalize sumE T (J.take j) = S0 at *
      by_cases he : (endsJ J)[j]'(by omega) ≤ T
      · rw [if_pos he] at hn
        conv => whnf
        refine brt (by rw [len_ints]; simp; omega) (fun hc => ?_)
        (try rw [hc])
        conv => whnf
        refine ⟨_, idx_int (by omega), ?_⟩
        conv => whnf
        refine brt (by exact decide_eq_true he) (fun hc => ?_)
        (try rw [hc])
        conv => whnf
        refine ⟨_, idx_int (by omega), ?_⟩
        conv => whnf
        refine ⟨trivial, ⟨_, rfl, .cl (by simp [AV.cl, cl_tks])⟩, ⟨_, rfl, .cl (by simp [AV.cl, cl_ints])⟩, ⟨_, rfl, .cl (by simp [AV.cl, cl_ints])⟩, ⟨_, rfl, .cl (by simp [AV.cl, cl_ints])⟩, ⟨_, rfl, .cl rfl⟩, ⟨_, congrArg (fun b => some (AV.int .i64 b)) ?_, .cl rfl⟩, ⟨_, inc_slot (by omega), .cl rfl⟩, trivial⟩
        rw [hn]
        exact IntWalk.i64_in _ (by omega)
      · rw [if_neg he] at hn
        conv => whnf
        refine brt (by rw [len_ints]; simp; omega) (fun hc => ?_)
        (try rw [hc])
        conv => whnf
        refine ⟨_, idx_int (by omega), ?_⟩
        conv => whnf
        refine brf (by exact decide_eq_false he) (fun hc => ?_)
        (try rw [hc])
        conv => whnf
        refine ⟨trivial, ⟨_, rfl, .cl (by simp [AV.cl, cl_tks])⟩, ⟨_, rfl, .cl (by simp [AV.cl, cl_ints])⟩, ⟨_, rfl, .cl (by simp [AV.cl, cl_ints])⟩, ⟨_, rfl, .cl (by simp [AV.cl, cl_ints])⟩, ⟨_, rfl, .cl rfl⟩, ⟨_, congrArg (fun b => some (AV.int .i64 b)) ?_, .cl rfl⟩, ⟨_, inc_slot (by omega), .cl rfl⟩, trivial⟩
        rw [hn]; omega
    · intro _
      rw [List.take_length]
      generalize sumE T J = S at *
      conv => whnf
      refine brf (by rw [len_ints]; simp; omega) (fun hc => ?_)
      (try rw [hc])
      conv => whnf
      refine vd_pure (dof_c kk 2 L M T h62 (by omega)) ?_
      rw [hd]
      conv => whnf
      refine brf (by simp; omega) (fun hc => ?_)
      (try rw [hc])
      conv => whnf
      refine ⟨trivial, ⟨_, rfl, .cl (by simp [AV.cl, cl_tks])⟩, ⟨_, rfl, .cl (by simp [AV.cl, cl_ints])⟩, ⟨_, rfl, .cl (by simp [AV.cl, cl_ints])⟩, ⟨_, rfl, .cl (by simp [AV.cl, cl_ints])⟩, ⟨_, by rw [← hTt]; exact inc_slot (by omega), .cl rfl⟩, trivial⟩
  · intro _
    show vpC fs ms 0 false false L_escapementlaw08_DemandSound_2 (ek 5 [(0, .fz kk (tks L)), (7, .fz 2 (ints M)), (9, .fz g (ints (endsJ J))), (10, .fz g (ints (asksJ J))), (14, .int .i64 ((200 : Nat) : Int))]) (hk 0 []) _
    generalize hTt : ((200 : Nat) : Int) = T at *
    conv => whnf
    refine brf (by simp; omega) (fun hc => ?_)
    (try rw [hc])
    conv => whnf
    subst hQ
    rfl
end Ir
end Go.Proofs.Ytbmnehpppegecaa
