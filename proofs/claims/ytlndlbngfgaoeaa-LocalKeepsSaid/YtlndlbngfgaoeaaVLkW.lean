/-
  Local: the ticks in which a server runs. Local: jobs are released. Local: who runs.
-/
import Derived.Test.YtlndlbngfgaoeaaVLkQ
import Derived.Test.YtlndlbngfgaoeaaVJobC
import Derived.Test.YtlndlbngfgaoeaaVLocM
import Derived.Test.YtlndlbngfgaoeaaVsGrow
import Derived.Test.YtlndlbngfgaoeaaVsPre
set_option maxRecDepth 100000
set_option linter.unusedSimpArgs false
set_option linter.unusedVariables false
namespace Go.Proofs.Ytlndlbngfgaoeaa
open Go Ads
namespace Ir
open Edf

theorem keeps {l : List Pt} (h : delCheck l = 0) {i : Nat} (hi : i < l.length) (hpass : (testS l (i : Nat)).2 = 0) {md : Int} (hmd : 0 < md) (how lt : List Int) (Q N : Nat) (hN : N ≤ 1000) (hQ : N ≤ (gRow how l[i].per l[i].bud Q).length) :
  ∀ u, u ≤ N → ∀ k, k < l[i].ts.length → 0 < jL (St md l[i].ts lt (runsOf (gRow how l[i].per l[i].bud Q)) u).j k → ((u : Nat) : Int) < jE (St md l[i].ts lt (runsOf (gRow how l[i].per l[i].bud Q)) u).j k := by
 have hx : l[i] ∈ l := List.getElem_mem hi
 have hok := okT_of h hx
 have hp := ((ok_in h).2 _ hx).1
 unfold partIn at hp
 have hg := fun (n : Nat) (hn : n ≤ 1048576) => pass_gives h hi hpass n hn
 obtain ⟨P, hP⟩ : ∃ P : Nat, l[i].per = (P : Int) := ⟨l[i].per.toNat, by omega⟩
 obtain ⟨B, hB⟩ : ∃ B : Nat, l[i].bud = (B : Int) := ⟨l[i].bud.toNat, by omega⟩
 rw [hP, hB] at hp hQ hg ⊢
 have hl := gRow_len how (P : Nat) (B : Nat) (by omega) Q
 simp only [Int.toNat_natCast] at hl
 have hbl := gRow_blocks how P B Q (by omega) (by omega)
 refine (play (N := N) hmd hok).keeps (fun s k hk hpos => ?_) (fun s k => gs_nonneg _ s k)
 have h1 := hg k (by omega) hpos
 have h2 := supply_least (runs := runsOf (gRow how (P : Nat) (B : Nat) Q)) (P := P) (B := B) (M := (gRow how (P : Nat) (B : Nat) Q).length) (by omega) (by omega) (by omega) hbl ⟨Q, by rw [hl, Nat.mul_comm]⟩ (s := s) (k := k) (by omega)
 omega

def blsC (l : List Bool) : List AV := l.map AV.bool
theorem cl_blsC (l : List Bool) : clL (blsC l) = true := clL_map (enc := AV.bool) (fun _ => rfl) l
theorem len_blsC (l : List Bool) : (blsC l).length = l.length := List.length_map ..
theorem size_blsC (l : List Bool) : allSize 1 (blsC l) = true := allSize_map (enc := AV.bool) (fun _ => rfl) l
theorem idx_blC {l : List Bool} {j k : Nat} (hj : j < l.length) : pV (.iaddrS 1) [.fz k (blsC l), .int .i64 (j : Nat)] = some (.fp [.bool l[j]] 0) := idx_map (enc := AV.bool) hj rfl
theorem flat_blsC : ∀ l : List Bool, flatCells (blsC l) = blsC l
 | [] => rfl
 | x :: l => by
  show AV.bool x :: flatCells (blsC l) = _
  rw [flat_blsC l]
  rfl
def rwV (b : Nat) : List Bool → AV
 | [] => .nils
 | x :: l => .sl b 0 (l.length + 1) (l.length + 1) true
def rwO : List Bool → Option Blk
 | [] => none
 | x :: l => some (.cells (blsC (x :: l)) true 1)
theorem rw_cln (l : List Bool) : Cln (rwO l) := by
 intro x hx
 cases l with
 | nil => cases hx
 | cons a l => cases hx; exact ⟨_, _, rfl, cl_blsC _⟩
theorem rw_ren {p : Nat → Nat} {n b c : Nat} (hp : p b = c) (hb : b < n) (l : List Bool) : Ren p n (rwV b l) (rwV c l) := by
 subst hp
 cases l with
 | nil => exact .cl rfl
 | cons a l => exact .sl hb
theorem rw_len (b : Nat) (l : List Bool) : pV .lenS [rwV b l] = some (.int .i64 (l.length : Nat)) := by
 cases l with
 | nil => rfl
 | cons a l => rfl
theorem rw_frz {g : Heap} {l : List Bool} (hg : g.get 0 = rwO l) (hl : l ≠ []) : Frz (fun _ => True) g (rwV 0 l) (.fz 0 (blsC l)) := by
 cases l with
 | nil => exact absurd rfl hl
 | cons a l => exact frz_open (s := 1) trivial hg (by rw [flat_blsC]) (size_blsC _) (by rw [len_blsC]; rfl) (cl_blsC _)

theorem app_rw {nx : Nat} {tr : Tr Blk} {S : List Bool} {b : Bool} {x : AV} (hg : Heap.get ⟨nx, tr⟩ 0 = rwO S) (hs : srcV 1 ⟨nx, tr⟩ x = some (1, [.bool b])) (hl : S.length ≤ 1048576) :
  ∃ h1 : Heap, eV (.append 1 1) [rwV 0 S, x] ⟨nx, tr⟩ = some (.sl nx 0 (S.length + 1) (S.length + 1) true, h1) ∧ h1.get nx = some (.cells (blsC (S ++ [b])) true 1) := by
 cases S with
 | nil =>
  refine ⟨_, app_nilsS (cs := [.bool b]) (by omega) hs rfl, ?_⟩
  show Tr.get (Tr.set tr nx _) nx = _
  rw [Tr.get_set, if_pos rfl]
  rfl
 | cons a S =>
  refine ⟨_, app_openS (cs := [.bool b]) (vs := blsC (a :: S)) hg (by rw [len_blsC]; simp) (by simpa using hl) (by omega) hs rfl, ?_⟩
  show Tr.get (Tr.set _ nx _) nx = _
  rw [Tr.get_set, if_pos rfl]
  simp [blsC]

theorem shr_at (n : Int) (i : Nat) : pV (.bin .shr) [.int .i64 n, .int .i64 (i : Nat)] = some (.int .i64 (n.fdiv (2 ^ (min i 64)))) := by
 simp only [pV, pIF, l2, binF, dInt, isShift, cond_true, binShift]
 rw [decide_eq_false (by omega)]
 rfl

def gvI (kh : Nat) (how : List Int) (x : Pt) (d : Int) (s : List Bool × Int) (i : Nat) : List (Nat × AV) := [(1, .fz kh (ints how)), (2, rwV 0 s.1), (3, .fp (pt x).cells 0), (7, .int .i64 d), (8, .int .i64 s.2), (9, .int .i64 (i : Nat))]
def gvE (kh : Nat) (how : List Int) (x : Pt) (R : List Bool) : List (Nat × AV) := [(1, .fz kh (ints how)), (2, rwV 0 R), (3, .fp (pt x).cells 0)]
def gvH (R : List Bool) : Heap := H3 (rwO R) none none

theorem ren_gvI {kh : Nat} {how : List Int} {x : Pt} {d left : Int} {R : List Bool} {i b : Nat} {e1 : Env} {h1 : Heap} {p : Nat → Nat} (p01 : p 0 ≠ p 1) (p02 : p 0 ≠ p 2) (p12 : p 1 ≠ p 2) (hp : p 0 = b) (e_1 : Tr.get e1 1 = some (.fz kh (ints how))) (e_2 : Tr.get e1 2 = some (rwV b R)) (e_3 : Tr.get e1 3 = some (.fp (pt x).cells 0))
  (e_7 : Tr.get e1 7 = some (.int .i64 d)) (e_8 : Tr.get e1 8 = some (.int .i64 left)) (e_9 : Tr.get e1 9 = some (.int .i64 (i : Nat))) (g0 : h1.get b = rwO R) : GC 0 p e1 h1 (ek 5 (gvI kh how x d (R, left) i)) (gvH R) := by
 subst hp
 exact gc3 p ⟨⟨_, e_1, .cl (by simp [AV.cl, cl_ints])⟩, ⟨_, e_2, rw_ren rfl (by omega) R⟩, ⟨_, e_3, .cl (cl_ptf x)⟩, ⟨_, e_7, .cl rfl⟩, ⟨_, e_8, .cl rfl⟩, ⟨_, e_9, .cl rfl⟩, trivial⟩ (cln_ren (rw_cln R) g0) no_blk no_blk p01 p02 p12 (by intro b hb; omega) (by omega)

theorem given_in {Q : AX → Env → Heap → Prop} (kh : Nat) (how : List Int) (x : Pt) (d B : Int) (R : List Bool) (hp : 1 ≤ x.per ∧ x.per ≤ 64) (hB : 0 ≤ B ∧ B ≤ x.per) (hR : R.length ≤ 1000)
  (hK : VC fs ms 0 false (.loop L_escapementlaw10_given_1) (ek 5 (gvI kh how x d (gIn x.per d (R, B) x.per.toNat) x.per.toNat)) (gvH (gIn x.per d (R, B) x.per.toNat).1) Q) :
  VC fs ms 0 false (.loop L_escapementlaw10_given_1) (ek 5 (gvI kh how x d (R, B) 0)) (gvH R) Q := by
 refine for_rowL 0 5 x.per.toNat (fun _ => True) (fun i => gvI kh how x d (gIn x.per d (R, B) i) i) (fun i => gvH (gIn x.per d (R, B) i).1) ?_ (fun _ => hK) trivial
 clear hK
 intro i hi _
 obtain ⟨W, w1, w2, w3, w4, w5, w6⟩ := gIn_is x.per d B R hB i (by omega)
 have hnx : gIn x.per d (R, B) (i + 1) = gStep x.per d (gIn x.per d (R, B) i) i := rfl
 have hlen : (gIn x.per d (R, B) i).1.length ≤ 1100 := by rw [w1, List.length_append]; omega
 generalize gIn x.per d (R, B) (i + 1) = s' at *
 generalize gIn x.per d (R, B) i = s at *
 obtain ⟨S, left⟩ := s
 simp only at w1 w3 w4 w5 w6 hlen
 obtain ⟨S', left'⟩ := s'
 have hS : S' = S ++ [gIs x.per d left i] := congrArg Prod.fst hnx
 have hleft : left' = if gIs x.per d left i = true then left - 1 else left := congrArg Prod.snd hnx
 have b1 : IntKind.i64.wrap (x.per - (i : Nat)) = x.per - (i : Nat) := IntWalk.i64_in _ (by omega)
 have b2 : 0 < left → IntKind.i64.wrap (left - 1) = left - 1 := fun h => IntWalk.i64_in _ (by omega)
 have hend : ∀ (e1 : Env) (h1 : Heap) (b : Nat) (v : AV) (bl : Blk), b = 4 → Tr.get e1 1 = some (.fz kh (ints how)) → Tr.get e1 2 = some (.sl b 0 (S.length + 1) (S.length + 1) true) → Tr.get e1 3 = some (.fp (pt x).cells 0) → Tr.get e1 7 = some (.int .i64 d) → Tr.get e1 8 = some (.int .i64 left') → Tr.get e1 9 = some (.int .i64 ((i + 1 : Nat) : Int)) →
   h1.get b = some (.cells (blsC S') true 1) → True ∧ ∃ p, GC 0 p e1 h1 (ek 5 (gvI kh how x d (S', left') (i + 1))) (gvH S') := by
  intro e1 h1 b v bl hb h_1 h_2 h_3 h_7 h_8 h_9 hg
  subst hb
  have e1' : rwV 4 S' = .sl 4 0 (S.length + 1) (S.length + 1) true := by
   rw [hS]
   cases S with
   | nil => rfl
   | cons a S => simp [rwV]
  have e2' : rwO S' = some (.cells (blsC S') true 1) := by
   rw [hS]
   cases S with
   | nil => rfl
   | cons a S => rfl
  exact ⟨trivial, fun b => bif Nat.beq b 0 then 4 else b, ren_gvI (by decide) (by decide) (by decide) rfl h_1 (h_2.trans (congrArg some e1'.symm)) h_3 h_7 h_8 h_9 (hg.trans e2'.symm)⟩
 have hsh := shr_at d (i % 20)
 have hbit : gBit d i = (IntKind.i64.wrap ((BitVec.ofInt 64 (d.fdiv (2 ^ (min (i % 20) 64))) &&& BitVec.ofInt 64 1).toNat : Int) == 1) := rfl
 have hgs : gIs x.per d left i = (decide (0 < left) && (decide (x.per - (i : Nat) ≤ left) || gBit d i)) := rfl
 have hgo : ∀ b : Bool, gIs x.per d left i = b → S' = S ++ [b] ∧ left' = if b = true then left - 1 else left := fun b hb => by rw [hb] at hS hleft; exact ⟨hS, hleft⟩
 clear hnx hS hleft
 unfold gvI gvH
 show vpC fs ms 0 false false _ (ek 5 [(1, .fz kh (ints how)), (2, rwV 0 S), (3, .fp (pt x).cells 0), (7, .int .i64 d), (8, .int .i64 left), (9, .int .i64 (i : Nat))]) ⟨3, .node (.node .nil none .nil) (rwO S) (.node .nil none .nil)⟩ _
 conv => whnf
 refine brt (by simp; omega) (fun hc => ?_)
 (try rw [hc])
 conv => whnf
 by_cases c1 : 0 < left
 ·refine brt (by simpa using c1) (fun hc => ?_)
  (try rw [hc])
  conv => whnf
  rw [b1]
  by_cases c2 : x.per - (i : Nat) ≤ left
  ·obtain ⟨hS, hleft⟩ := hgo true (by rw [hgs, decide_eq_true c1, decide_eq_true c2]; rfl)
   rw [if_pos rfl] at hleft
   refine brt (by simpa using c2) (fun hc => ?_)
   (try rw [hc])
   conv => whnf
   obtain ⟨g1, q1, q2⟩ := app_rw (S := S) (b := true) (nx := 4) (tr := .node (.node (.node .nil (some (.cells [.bool true] true 0)) .nil) none .nil) (rwO S) (.node .nil none .nil)) (x := .sl 3 0 1 1 false) rfl rfl (by omega)
   refine ⟨_, _, q1, ?_⟩
   conv => whnf
   rw [b2 c1]
   refine hend _ _ 4 .undef (.cells [] true 0) rfl rfl rfl rfl rfl (by rw [hleft]; rfl) (inc_slot (by omega)) (by rw [q2, hS])
  ·refine brf (by simpa using c2) (fun hc => ?_)
   (try rw [hc])
   conv => whnf
   refine ⟨_, rem_val _ _ (by omega), ?_⟩
   conv => whnf
   refine ⟨_, hsh, ?_⟩
   cases hb : gBit d i with
   | true =>
    obtain ⟨hS, hleft⟩ := hgo true (by rw [hgs, hb, decide_eq_true c1]; simp)
    rw [if_pos rfl] at hleft
    conv => whnf
    refine brt (hbit.symm.trans hb) (fun hc => ?_)
    (try rw [hc])
    conv => whnf
    obtain ⟨g1, q1, q2⟩ := app_rw (S := S) (b := true) (nx := 4) (tr := .node (.node (.node .nil (some (.cells [.bool true] true 0)) .nil) none .nil) (rwO S) (.node .nil none .nil)) (x := .sl 3 0 1 1 false) rfl rfl (by omega)
    refine ⟨_, _, q1, ?_⟩
    conv => whnf
    rw [b2 c1]
    refine hend _ _ 4 .undef (.cells [] true 0) rfl rfl rfl rfl rfl (by rw [hleft]; rfl) (inc_slot (by omega)) (by rw [q2, hS])
   | false =>
    obtain ⟨hS, hleft⟩ := hgo false (by rw [hgs, hb, decide_eq_true c1, decide_eq_false c2]; rfl)
    rw [if_neg (by decide)] at hleft
    conv => whnf
    refine brf (hbit.symm.trans hb) (fun hc => ?_)
    (try rw [hc])
    conv => whnf
    obtain ⟨g1, q1, q2⟩ := app_rw (S := S) (b := false) (nx := 4) (tr := .node (.node (.node .nil (some (.cells [.bool false] true 0)) .nil) none .nil) (rwO S) (.node .nil none .nil)) (x := .sl 3 0 1 1 false) rfl rfl (by omega)
    refine ⟨_, _, q1, ?_⟩
    conv => whnf
    refine hend _ _ 4 .undef (.cells [] true 0) rfl rfl rfl rfl rfl (by rw [hleft]; rfl) (inc_slot (by omega)) (by rw [q2, hS])
 ·obtain ⟨hS, hleft⟩ := hgo false (by rw [hgs, decide_eq_false c1]; rfl)
  rw [if_neg (by decide)] at hleft
  refine brf (by simpa using c1) (fun hc => ?_)
  (try rw [hc])
  conv => whnf
  obtain ⟨g1, q1, q2⟩ := app_rw (S := S) (b := false) (nx := 4) (tr := .node (.node (.node .nil (some (.cells [.bool false] true 0)) .nil) none .nil) (rwO S) (.node .nil none .nil)) (x := .sl 3 0 1 1 false) rfl rfl (by omega)
  refine ⟨_, _, q1, ?_⟩
  conv => whnf
  refine hend _ _ 4 .undef (.cells [] true 0) rfl rfl rfl rfl rfl (by rw [hleft]; rfl) (inc_slot (by omega)) (by rw [q2, hS])

theorem ren_gvE {kh : Nat} {how : List Int} {x : Pt} {R : List Bool} {e1 : Env} {h1 : Heap} (e_1 : Tr.get e1 1 = some (.fz kh (ints how))) (e_2 : Tr.get e1 2 = some (rwV 0 R)) (e_3 : Tr.get e1 3 = some (.fp (pt x).cells 0)) (g0 : h1.get 0 = rwO R) : GC 0 id e1 h1 (ek 5 (gvE kh how x R)) (gvH R) :=
 gc3 id ⟨⟨_, e_1, .cl (by simp [AV.cl, cl_ints])⟩, ⟨_, e_2, rw_ren rfl (by omega) R⟩, ⟨_, e_3, .cl (cl_ptf x)⟩, trivial⟩ (cln_ren (rw_cln R) g0) no_blk no_blk (by decide) (by decide) (by decide) (by intro b hb; omega) (by omega)

def gQ (P : Int) : Nat := 399 / P.toNat + 1
theorem gQ_lt {P : Nat} (hP : 1 ≤ P) {q : Nat} : q < gQ P ↔ q * P < 400 := by
 unfold gQ
 rw [Int.toNat_natCast, Nat.lt_succ_iff, Nat.le_div_iff_mul_le (by omega)]
 omega

theorem given_c (x : Pt) (kh : Nat) (how : List Int) (hp : partIn x) (hh : how.length < 2 ^ 62) : PC fs ms f_escapementlaw10_given [pt x, .fz kh (ints how), .nils] (.fz 0 (blsC (gRow how x.per x.bud (gQ x.per)))) := by
 refine ⟨by simp [clL, cl_pt, AV.cl, cl_ints], by simp [AV.cl, cl_blsC], ?_⟩
 refine vd_begin (af := C_escapementlaw10_given) rfl (Nat.le_of_ble_eq_true rfl) ?_
 generalize hQ : (fun (u : AV) (g : Heap) => Frz (fun _ => True) g u (.fz 0 (blsC (gRow how x.per x.bud (gQ x.per))))) = Q
 unfold partIn at hp
 obtain ⟨P, hP⟩ : ∃ P : Nat, x.per = (P : Int) := ⟨x.per.toNat, by omega⟩
 have hlen := fun q => gRow_len how x.per x.bud (by omega) q
 have hlt := fun q => gQ_lt (P := P) (by omega) (q := q)
 rw [← hP] at hlt
 simp only [hP, Int.toNat_natCast] at hlen
 conv => whnf
 refine vc_seq false ?_
 conv => whnf
 refine vc_frz [0] (i := 3) (v' := .fp (pt x).cells 0) rfl (.ptr' (by simp) rfl (.clean (show clL (pt x).cells = true by simp [pt, AV.cells, clL, AV.cl, cl_tks]))) ?_
 refine vc_gc (e' := ek 5 (gvE kh how x (gRow how x.per x.bud 0))) (h' := gvH (gRow how x.per x.bud 0)) (p := id) (ren_gvE rfl rfl rfl rfl) ?_
 refine vpC_sound (z := false) ?_
 conv => whnf
 show VC fs ms 0 false _ _ _ _
 refine for_rowH 0 5 (gQ x.per) (fun _ => True) (fun q => gvE kh how x (gRow how x.per x.bud q)) (fun q => gvH (gRow how x.per x.bud q)) (fun q hq _ => ?_) (fun _ => ?_) trivial
 ·have hl := hlen q
  have hq4 := (hlt q).1 hq
  have hnx : gRow how x.per x.bud (q + 1) = (gIn x.per (gDraw how x.per (gRow how x.per x.bud q).length) (gRow how x.per x.bud q, x.bud) x.per.toNat).1 := rfl
  rw [hP] at hnx ⊢
  generalize gRow how (P : Nat) x.bud (q + 1) = R' at *
  generalize gRow how (P : Nat) x.bud q = R at *
  have hrl := rw_len 0 R
  have hR4 : R.length < 400 := by omega
  obtain ⟨RL, hRL⟩ : ∃ RL : Int, ((R.length : Nat) : Int) = RL := ⟨_, rfl⟩
  rw [hRL] at hrl
  have hRL4 : RL < 400 := by omega
  have hin : ∀ (d : Int) (e1 : Env) (h1 : Heap) (K : AX → Env → Heap → Prop), d = gDraw how (P : Nat) R.length → Tr.get e1 1 = some (.fz kh (ints how)) → Tr.get e1 2 = some (rwV 0 R) → Tr.get e1 3 = some (.fp (pt x).cells 0) → Tr.get e1 7 = some (.int .i64 d) → Tr.get e1 8 = some (.int .i64 x.bud) → Tr.get e1 9 = some (.int .i64 ((0 : Nat) : Int)) → h1.get 0 = rwO R →
    (∀ e2 h2, (True ∧ ∃ p, GC 0 p e2 h2 (ek 5 (gvE kh how x R')) (gvH R')) → K (.exit 2) e2 h2) → VC fs ms 0 false (.loop L_escapementlaw10_given_1) e1 h1 K := by
   intro d e1 h1 K hd h_1 h_2 h_3 h_7 h_8 h_9 hg hend
   refine vc_gc (ren_gvI (p := id) (b := 0) (by decide) (by decide) (by decide) rfl h_1 h_2 h_3 h_7 h_8 h_9 hg) ?_
   refine given_in kh how x d x.bud R (by omega) (by omega) (by omega) ?_
   rw [hP, hd, ← hnx]
   generalize gIn ((P : Nat) : Int) (gDraw how (P : Nat) R.length) (R, x.bud) ((P : Nat) : Int).toNat = s at *
   obtain ⟨s1, s2⟩ := s
   simp only at hnx
   subst hnx
   generalize gDraw how (P : Nat) R.length = d at *
   refine vc_loop (z := false) ?_
   unfold gvI gvH
   show vpC fs ms 0 false false _ (ek 5 [(1, .fz kh (ints how)), (2, rwV 0 R'), (3, .fp (pt x).cells 0), (7, .int .i64 d), (8, .int .i64 s2), (9, .int .i64 ((((P : Nat) : Int).toNat : Nat) : Int))]) ⟨3, .node (.node .nil none .nil) (rwO R') (.node .nil none .nil)⟩ _
   conv => whnf
   refine brf (by rw [hP]; simp) (fun hc => ?_)
   (try rw [hc])
   conv => whnf
   exact hend _ _ ⟨trivial, id, ren_gvE rfl rfl rfl rfl⟩
  unfold gvE gvH
  show vpC fs ms 0 false false _ (ek 5 [(1, .fz kh (ints how)), (2, rwV 0 R), (3, .fp (pt x).cells 0)]) ⟨3, .node (.node .nil none .nil) (rwO R) (.node .nil none .nil)⟩ _
  conv => whnf
  refine op_some hrl ?_
  conv => whnf
  refine brt (decide_eq_true hRL4) (fun hc => ?_)
  (try rw [hc])
  conv => whnf
  cases how with
  | nil =>
   conv => whnf
   refine hin 0 _ _ _ rfl rfl rfl rfl rfl rfl rfl rfl (fun e2 h2 hh => ?_)
   exact hh
  | cons a hr =>
   have hgd : gDraw (a :: hr) (P : Nat) R.length = ((a :: hr).getD ((((R.length : Nat) : Int) / (P : Nat) % ((a :: hr).length : Nat)).toNat) 0) % 1048576 := rfl
   have hL1 : 1 ≤ (a :: hr).length := by simp
   generalize a :: hr = H at *
   have hk1 := Int.emod_nonneg (RL / (P : Nat)) (show ((H.length : Nat) : Int) ≠ 0 by omega)
   have hk2 := Int.emod_lt_of_pos (RL / (P : Nat)) (show (0 : Int) < (H.length : Nat) by omega)
   obtain ⟨k, hk⟩ : ∃ k : Nat, RL / (P : Nat) % ((H.length : Nat) : Int) = (k : Nat) := ⟨(RL / (P : Nat) % ((H.length : Nat) : Int)).toNat, by omega⟩
   have hkl : k < H.length := by omega
   have hq : IntKind.i64.wrap (RL.tdiv x.per) = RL / (P : Nat) := by rw [hP]; exact IntWalk.i64_quo _ _ (by omega)
   have hq0 : 0 ≤ RL / (P : Nat) := Int.ediv_nonneg (by omega) (by omega)
   rw [hRL, hk, show ((k : Nat) : Int).toNat = k by simp, List.getD_eq_getElem?_getD, List.getElem?_eq_getElem hkl] at hgd
   have hix := idx_int (l := H) (j := k) (k := kh) hkl
   have hbr := bring_c H[k] 1048576 (by omega) (by omega)
   refine brt (by rw [len_ints]; simp; omega) (fun hc => ?_)
   (try rw [hc])
   conv => whnf
   refine op_some hrl ?_
   conv => whnf
   refine ⟨_, quo_val _ _ (by omega), ?_⟩
   conv => whnf
   rw [hq, len_ints]
   refine ⟨_, rem_val _ _ (by omega), ?_⟩
   conv => whnf
   rw [Int.tmod_eq_emod_of_nonneg hq0, hk]
   refine ⟨_, hix, ?_⟩
   conv => whnf
   refine vd_pure hbr ?_
   conv => whnf
   refine hin (bring H[k] 1048576) _ _ _ (by rw [hgd]; rfl) rfl rfl rfl rfl rfl rfl rfl (fun e2 h2 hh => ?_)
   exact hh
 ·have hl := hlen (gQ x.per)
  have hge : 400 ≤ (gRow how x.per x.bud (gQ x.per)).length := by
   by_cases h : (gRow how x.per x.bud (gQ x.per)).length < 400
   ·have e : (gRow how x.per x.bud (gQ x.per)).length = gQ x.per * P := by rw [← hl, hP]
    rw [e] at h
    have := (hlt _).2 h
    omega
   ·omega
  have hne : gRow how x.per x.bud (gQ x.per) ≠ [] := by
   intro h
   rw [h] at hge
   simp at hge
  have hlast : ∀ g : Heap, g.get 0 = rwO (gRow how x.per x.bud (gQ x.per)) → Q (rwV 0 (gRow how x.per x.bud (gQ x.per))) g := by
   subst hQ
   intro g hg
   exact rw_frz hg hne
  clear hQ
  generalize gRow how x.per x.bud (gQ x.per) = R at *
  have hrl := rw_len 0 R
  obtain ⟨RL, hRL⟩ : ∃ RL : Int, ((R.length : Nat) : Int) = RL := ⟨_, rfl⟩
  rw [hRL] at hrl
  have hRL4 : ¬ RL < 400 := by omega
  unfold gvE gvH
  show vpC fs ms 0 false false _ (ek 5 [(1, .fz kh (ints how)), (2, rwV 0 R), (3, .fp (pt x).cells 0)]) ⟨3, .node (.node .nil none .nil) (rwO R) (.node .nil none .nil)⟩ _
  conv => whnf
  refine op_some hrl ?_
  conv => whnf
  refine brf (decide_eq_false hRL4) (fun hc => ?_)
  (try rw [hc])
  conv => whnf
  exact hlast _ rfl
end Ir
end Go.Proofs.Ytlndlbngfgaoeaa
set_option maxRecDepth 100000
set_option linter.unusedSimpArgs false
set_option linter.unusedVariables false
namespace Go.Proofs.Ytlndlbngfgaoeaa
open Go Ads
namespace Ir
open Edf

def LSH (S : LS) : Heap := H3 (some (.cells (jc S.j) true 0)) (some (.cells (ints S.n) true 0)) none
def relE (kl : Nat) (lt : List Int) (y : Pt) (W : List Bool) (u : Nat) (d i : Nat) : List (Nat × AV) :=
 [(2, .fz kl (ints lt)), (8, .fp (pt y).cells 0), (11, .fz 0 (blsC W)), (12, .sl 0 0 y.ts.length y.ts.length false), (13, .sl 1 0 y.ts.length y.ts.length false), (14, .int .i64 (d : Nat)), (15, .int .i64 (u : Nat)), (16, .int .i64 (i : Nat))]
theorem ren_rel {kl : Nat} {lt : List Int} {y : Pt} {W : List Bool} {u d i : Nat} {S : LS} {e1 : Env} {h1 : Heap} (h_2 : Tr.get e1 2 = some (.fz kl (ints lt))) (h_8 : Tr.get e1 8 = some (.fp (pt y).cells 0)) (h_11 : Tr.get e1 11 = some (.fz 0 (blsC W))) (h_12 : Tr.get e1 12 = some (.sl 0 0 y.ts.length y.ts.length false))
  (h_13 : Tr.get e1 13 = some (.sl 1 0 y.ts.length y.ts.length false)) (h_14 : Tr.get e1 14 = some (.int .i64 (d : Nat))) (h_15 : Tr.get e1 15 = some (.int .i64 (u : Nat))) (h_16 : Tr.get e1 16 = some (.int .i64 (i : Nat))) (g0 : h1.get 0 = some (.cells (jc S.j) true 0)) (g1 : h1.get 1 = some (.cells (ints S.n) true 0)) :
  GC 0 id e1 h1 (ek 5 (relE kl lt y W u d i)) (LSH S) :=
 gc3 id ⟨⟨_, h_2, .cl (by simp [AV.cl, cl_ints])⟩, ⟨_, h_8, .cl (cl_ptf y)⟩, ⟨_, h_11, .cl (by simp [AV.cl, cl_blsC])⟩, ⟨_, h_12, .sl (by omega)⟩, ⟨_, h_13, .sl (by omega)⟩, ⟨_, h_14, .cl rfl⟩, ⟨_, h_15, .cl rfl⟩, ⟨_, h_16, .cl rfl⟩, trivial⟩ (one_blk ⟨_, g0, renB_cl rfl (jc_cl _)⟩) (one_blk ⟨_, g1, renB_cl rfl (cl_ints _)⟩) no_blk (by decide) (by decide) (by decide) (by intro b hb; omega) (by omega)
theorem rel_in {Q : AX → Env → Heap → Prop} (kl : Nat) (lt : List Int) (y : Pt) (W : List Bool) (u : Nat) (S : LS) (ho : ∀ t, t ∈ y.ts → OkT t) (hok : LSok y.ts.length S) (hu : u < 1000) (hd : S.d ≤ 100000) (hm4 : y.ts.length ≤ 4) (hlt : lt.length < 2 ^ 62)
  (hmiss : ∀ i, i < y.ts.length → 0 < jL S.j i → ((u : Nat) : Int) < jE S.j i)
  (hK : VC fs ms 0 false (.loop L_escapementlaw10_LocalKeeps_1) (ek 5 (relE kl lt y W u (relN 30 y.ts lt u S y.ts.length).d y.ts.length)) (LSH (relN 30 y.ts lt u S y.ts.length)) Q) :
  VC fs ms 0 false (.loop L_escapementlaw10_LocalKeeps_1) (ek 5 (relE kl lt y W u S.d 0)) (LSH S) Q := by
 refine for_rowL 0 5 y.ts.length (fun _ => True) (fun i => relE kl lt y W u (relN 30 y.ts lt u S i).d i) (fun i => LSH (relN 30 y.ts lt u S i)) ?_ (fun _ => hK) trivial
 clear hK
 intro i hi _
 have hokR := relN_ok (md := 30) (ts := y.ts) (lt := lt) (u := u) hok i
 have hdR := relN_d (md := 30) (ts := y.ts) (lt := lt) (u := u) (S := S) i
 obtain ⟨r1, r2, r3, r4⟩ := relN_get (md := 30) (u := u) (ts := y.ts) (lt := lt) (by omega) hok i i (by omega)
 rw [if_neg (by omega)] at r1 r2
 have hm := hmiss i hi
 rw [← r1, ← r2] at hm
 have hnx : relN 30 y.ts lt u S (i + 1) = relOne 30 y.ts lt u (relN 30 y.ts lt u S i) i := rfl
 have hto := ho _ (List.getElem_mem hi)
 have htk := tk_get hi
 have hix := idx_tk (k := y.k) hi
 have hex := extra_in (md := 30) (by omega) lt (relN 30 y.ts lt u S i).d
 have hexc := extra_cons (md := 30) (lt := lt) (d := (relN 30 y.ts lt u S i).d)
 clear r1 r2 r3 r4
 generalize relN 30 y.ts lt u S (i + 1) = R' at *
 generalize relN 30 y.ts lt u S i = R at *
 obtain ⟨J, n, d⟩ := R
 simp only at hm hdR hex hexc
 have hJl : J.length = y.ts.length := hokR.1
 have hnl : n.length = y.ts.length := hokR.2
 have le := jc_e (J := J) (i := i) (by omega)
 have ll := jc_l (J := J) (i := i) (by omega)
 have ln := ints_at (n := n) (i := i) (by omega)
 have hlenJ := jc_len J
 have htD : tD y.ts i = y.ts[i].d := by rw [tD, htk]
 have htC : tC y.ts i = y.ts[i].w := by rw [tC, htk]
 have htP : tP y.ts i = y.ts[i].p := by rw [tP, htk]
 unfold relOne at hnx
 rw [htD, htC, htP] at hnx
 simp only at hnx
 generalize y.ts[i] = t at *
 unfold OkT at hto
 generalize hex0 : extra 30 lt d = ex at *
 obtain ⟨m, hmm⟩ : ∃ m, y.ts.length = m := ⟨_, rfl⟩
 have hE : ∀ S : LS, relE kl lt y W u S.d i = [(2, .fz kl (ints lt)), (8, .fp (pt y).cells 0), (11, .fz 0 (blsC W)), (12, .sl 0 0 m m false), (13, .sl 1 0 m m false), (14, .int .i64 (S.d : Nat)), (15, .int .i64 (u : Nat)), (16, .int .i64 (i : Nat))] := by
  intro S
  rw [relE, hmm]
 rw [hE]
 obtain ⟨U, hU⟩ : ∃ U : Int, ((u : Nat) : Int) = U := ⟨_, rfl⟩
 rw [hU]
 show vpC fs ms 0 false false _ (ek 5 [(2, .fz kl (ints lt)), (8, .fp (pt y).cells 0), (11, .fz 0 (blsC W)), (12, .sl 0 0 m m false), (13, .sl 1 0 m m false), (14, .int .i64 (d : Nat)), (15, .int .i64 U), (16, .int .i64 (i : Nat))]) ⟨3, .node (.node .nil (some (.cells (ints n) true 0)) .nil) (some (.cells (jc J) true 0)) (.node .nil none .nil)⟩ _
 conv => whnf
 refine brt (by simp; omega) (fun hc => ?_)
 (try rw [hc])
 conv => whnf
 refine ⟨_, idx_slS2 (by omega), ?_⟩
 conv => whnf
 refine op_some (ld1 rfl ll) ?_
 conv => whnf
 have b1 : IntKind.i64.wrap (U + t.d) = U + t.d := IntWalk.i64_in _ (by omega)
 have b2 : IntKind.i64.wrap (U + t.p) = U + t.p := IntWalk.i64_in _ (by omega)
 have b3 : IntKind.i64.wrap (U + t.p + ex) = U + t.p + ex := IntWalk.i64_in _ (by omega)
 have hJ1 := jc_set J i (by omega) (U + t.d, t.w)
 have hN1 := ints_set (n := n) (i := i) (by omega) (U + t.p)
 have hN2 : (Heap.splice (ints n) i [.int .i64 (U + t.p)])[i]? = some (.int .i64 (U + t.p)) := by
  rw [hN1, ints_at (by simp; omega), nX_set (by omega), if_pos rfl]
 have hN3 : Heap.splice (Heap.splice (ints n) i [.int .i64 (U + t.p)]) i [.int .i64 (U + t.p + ex)] = ints (n.set i (U + t.p + ex)) := by
  rw [hN1, ints_set (by simp; omega), List.set_set]
 rw [hU] at hnx
 have hend : ∀ (e1 : Env) (h1 : Heap), Tr.get e1 2 = some (.fz kl (ints lt)) → Tr.get e1 8 = some (.fp (pt y).cells 0) → Tr.get e1 11 = some (.fz 0 (blsC W)) → Tr.get e1 12 = some (.sl 0 0 m m false) → Tr.get e1 13 = some (.sl 1 0 m m false) → Tr.get e1 14 = some (.int .i64 (R'.d : Nat)) → Tr.get e1 15 = some (.int .i64 U) → Tr.get e1 16 = some (.int .i64 ((i + 1 : Nat) : Int)) →
   h1.get 0 = some (.cells (jc R'.j) true 0) → h1.get 1 = some (.cells (ints R'.n) true 0) → True ∧ ∃ p, GC 0 p e1 h1 (ek 5 (relE kl lt y W u R'.d (i + 1))) (LSH R') := by
  intro e1 h1 h_2 h_8 h_11 h_12 h_13 h_14 h_15 h_16 g0 g1
  exact ⟨trivial, id, ren_rel h_2 h_8 h_11 (by rw [hmm]; exact h_12) (by rw [hmm]; exact h_13) h_14 (by rw [hU]; exact h_15) h_16 g0 g1⟩
 by_cases hl : 0 < jL J i
 ·refine brt (by simpa using hl) (fun hc => ?_)
  (try rw [hc])
  conv => whnf
  refine ⟨_, idx_slS2 (by omega), ?_⟩
  conv => whnf
  refine op_some (ld1 rfl le) ?_
  conv => whnf
  have hm := hm hl
  refine brf (by simp; omega) (fun hc => ?_)
  (try rw [hc])
  conv => whnf
  refine ⟨_, idx_sl (by omega), ?_⟩
  conv => whnf
  refine op_some (ld1 rfl ln) ?_
  conv => whnf
  by_cases hr : nX n i ≤ U
  ·refine brt (by simpa using hr) (fun hc => ?_)
   (try rw [hc])
   conv => whnf
   rw [if_pos hr] at hnx
   refine ⟨_, hix, ?_⟩
   conv => whnf
   rw [b1]
   conv => whnf
   refine ⟨_, hix, ?_⟩
   conv => whnf
   refine ⟨_, idx_slS2 (by omega), ?_⟩
   conv => whnf
   refine brT (by show (Nat.ble (i * 2 + 2) (jc J).length && true) = true; rw [hlenJ, Bool.and_true]; exact Nat.ble_eq_true_of_le (by omega)) ?_
   conv => whnf
   refine ⟨_, hix, ?_⟩
   conv => whnf
   rw [b2]
   conv => whnf
   refine ⟨_, idx_sl (by omega), ?_⟩
   conv => whnf
   refine brT (by show (Nat.ble (i + 1) (ints n).length && true) = true; rw [len_ints, Bool.and_true]; exact Nat.ble_eq_true_of_le (by omega)) ?_
   conv => whnf
   cases hlt0 : lt with
   | nil =>
    subst hlt0
    have he0 : ex = 0 := by rw [← hex0]; rfl
    conv => whnf
    rw [he0, Int.add_zero] at hnx
    refine hend _ _ rfl rfl rfl rfl rfl (by rw [hnx]; exact inc_slot (j := d) (by omega)) rfl (inc_slot (by omega)) (by rw [hnx]; exact congrArg (fun c => some (Blk.cells c true 0)) hJ1) (by rw [hnx]; exact congrArg (fun c => some (Blk.cells c true 0)) hN1)
   | cons a rr =>
    have hne : lt ≠ [] := by rw [hlt0]; exact List.cons_ne_nil _ _
    have hL1 : 1 ≤ lt.length := by rw [hlt0]; simp
    rw [← hlt0]
    have hexc := hexc hne
    have hkl : d % lt.length < lt.length := Nat.mod_lt _ (by omega)
    rw [List.getD_eq_getElem?_getD, List.getElem?_eq_getElem hkl] at hexc
    have hxl := idx_int (l := lt) (j := d % lt.length) (k := kl) hkl
    have hbr := bring_c lt[d % lt.length] 30 (by omega) (by omega)
    rw [show bring lt[d % lt.length] 30 = ex from hexc.symm] at hbr
    refine brt (by rw [len_ints]; simp; omega) (fun hc => ?_)
    (try rw [hc])
    conv => whnf
    refine ⟨_, idx_sl (by omega), ?_⟩
    conv => whnf
    refine op_some (ld1 rfl hN2) ?_
    conv => whnf
    refine ⟨_, rem_val _ _ (by rw [len_ints]; omega), ?_⟩
    conv => whnf
    rw [len_ints]
    refine ⟨_, hxl, ?_⟩
    conv => whnf
    refine vd_pure hbr ?_
    conv => whnf
    rw [b3]
    conv => whnf
    refine ⟨_, idx_sl (by omega), ?_⟩
    conv => whnf
    refine brT (by show (Nat.ble (i + 1) (Heap.splice (ints n) i [.int .i64 (U + t.p)]).length && true) = true; rw [hN1, len_ints, List.length_set, Bool.and_true]; exact Nat.ble_eq_true_of_le (by omega)) ?_
    conv => whnf
    refine ⟨winOk_of (by (conv => whnf); repeat' (first | exact trivial | exact ld1 rfl hN2 | (exact ⟨rfl, rfl, .inr ⟨_, _, rfl⟩⟩) | (refine ⟨rfl, rfl, .inl ⟨rfl, fun o ho => ?_⟩⟩; cases ho; first | rfl | exact ld1 rfl hN2) | (exact ⟨rfl, .inr ⟨_, _, rfl⟩⟩) | (refine ⟨rfl, .inl ⟨rfl, fun i o hi ho => ?_⟩⟩; cases hi; cases ho; first | rfl | exact ld1 rfl hN2) | (refine And.intro (fun hon => (Bool.false_ne_true hon).elim) ?_ <;> conv => whnf) | (refine And.intro (fun _ => ?_) ?_ <;> conv => whnf) | (refine And.intro ?_ ?_ <;> conv => whnf))), ?_⟩
    conv => whnf
    refine hend _ _ rfl rfl rfl rfl rfl (by rw [hnx]; exact inc_slot (j := d) (by omega)) rfl (inc_slot (by omega)) (by rw [hnx]; exact congrArg (fun c => some (Blk.cells c true 0)) hJ1) (by rw [hnx]; exact congrArg (fun c => some (Blk.cells c true 0)) hN3)
  ·refine brf (by simpa using hr) (fun hc => ?_)
   (try rw [hc])
   conv => whnf
   rw [if_neg hr] at hnx
   refine hend _ _ rfl rfl rfl rfl rfl (by rw [hnx]; rfl) rfl (inc_slot (by omega)) (by rw [hnx]; rfl) (by rw [hnx]; rfl)
 ·refine brf (by simpa using hl) (fun hc => ?_)
  (try rw [hc])
  conv => whnf
  refine ⟨_, idx_sl (by omega), ?_⟩
  conv => whnf
  refine op_some (ld1 rfl ln) ?_
  conv => whnf
  by_cases hr : nX n i ≤ U
  ·refine brt (by simpa using hr) (fun hc => ?_)
   (try rw [hc])
   conv => whnf
   rw [if_pos hr] at hnx
   refine ⟨_, hix, ?_⟩
   conv => whnf
   rw [b1]
   conv => whnf
   refine ⟨_, hix, ?_⟩
   conv => whnf
   refine ⟨_, idx_slS2 (by omega), ?_⟩
   conv => whnf
   refine brT (by show (Nat.ble (i * 2 + 2) (jc J).length && true) = true; rw [hlenJ, Bool.and_true]; exact Nat.ble_eq_true_of_le (by omega)) ?_
   conv => whnf
   refine ⟨_, hix, ?_⟩
   conv => whnf
   rw [b2]
   conv => whnf
   refine ⟨_, idx_sl (by omega), ?_⟩
   conv => whnf
   refine brT (by show (Nat.ble (i + 1) (ints n).length && true) = true; rw [len_ints, Bool.and_true]; exact Nat.ble_eq_true_of_le (by omega)) ?_
   conv => whnf
   cases hlt0 : lt with
   | nil =>
    subst hlt0
    have he0 : ex = 0 := by rw [← hex0]; rfl
    conv => whnf
    rw [he0, Int.add_zero] at hnx
    refine hend _ _ rfl rfl rfl rfl rfl (by rw [hnx]; exact inc_slot (j := d) (by omega)) rfl (inc_slot (by omega)) (by rw [hnx]; exact congrArg (fun c => some (Blk.cells c true 0)) hJ1) (by rw [hnx]; exact congrArg (fun c => some (Blk.cells c true 0)) hN1)
   | cons a rr =>
    have hne : lt ≠ [] := by rw [hlt0]; exact List.cons_ne_nil _ _
    have hL1 : 1 ≤ lt.length := by rw [hlt0]; simp
    rw [← hlt0]
    have hexc := hexc hne
    have hkl : d % lt.length < lt.length := Nat.mod_lt _ (by omega)
    rw [List.getD_eq_getElem?_getD, List.getElem?_eq_getElem hkl] at hexc
    have hxl := idx_int (l := lt) (j := d % lt.length) (k := kl) hkl
    have hbr := bring_c lt[d % lt.length] 30 (by omega) (by omega)
    rw [show bring lt[d % lt.length] 30 = ex from hexc.symm] at hbr
    refine brt (by rw [len_ints]; simp; omega) (fun hc => ?_)
    (try rw [hc])
    conv => whnf
    refine ⟨_, idx_sl (by omega), ?_⟩
    conv => whnf
    refine op_some (ld1 rfl hN2) ?_
    conv => whnf
    refine ⟨_, rem_val _ _ (by rw [len_ints]; omega), ?_⟩
    conv => whnf
    rw [len_ints]
    refine ⟨_, hxl, ?_⟩
    conv => whnf
    refine vd_pure hbr ?_
    conv => whnf
    rw [b3]
    conv => whnf
    refine ⟨_, idx_sl (by omega), ?_⟩
    conv => whnf
    refine brT (by show (Nat.ble (i + 1) (Heap.splice (ints n) i [.int .i64 (U + t.p)]).length && true) = true; rw [hN1, len_ints, List.length_set, Bool.and_true]; exact Nat.ble_eq_true_of_le (by omega)) ?_
    conv => whnf
    refine ⟨winOk_of (by (conv => whnf); repeat' (first | exact trivial | exact ld1 rfl hN2 | (exact ⟨rfl, rfl, .inr ⟨_, _, rfl⟩⟩) | (refine ⟨rfl, rfl, .inl ⟨rfl, fun o ho => ?_⟩⟩; cases ho; first | rfl | exact ld1 rfl hN2) | (exact ⟨rfl, .inr ⟨_, _, rfl⟩⟩) | (refine ⟨rfl, .inl ⟨rfl, fun i o hi ho => ?_⟩⟩; cases hi; cases ho; first | rfl | exact ld1 rfl hN2) | (refine And.intro (fun hon => (Bool.false_ne_true hon).elim) ?_ <;> conv => whnf) | (refine And.intro (fun _ => ?_) ?_ <;> conv => whnf) | (refine And.intro ?_ ?_ <;> conv => whnf))), ?_⟩
    conv => whnf
    refine hend _ _ rfl rfl rfl rfl rfl (by rw [hnx]; exact inc_slot (j := d) (by omega)) rfl (inc_slot (by omega)) (by rw [hnx]; exact congrArg (fun c => some (Blk.cells c true 0)) hJ1) (by rw [hnx]; exact congrArg (fun c => some (Blk.cells c true 0)) hN3)
  ·refine brf (by simpa using hr) (fun hc => ?_)
   (try rw [hc])
   conv => whnf
   rw [if_neg hr] at hnx
   refine hend _ _ rfl rfl rfl rfl rfl (by rw [hnx]; rfl) rfl (inc_slot (by omega)) (by rw [hnx]; rfl) (by rw [hnx]; rfl)
end Ir
end Go.Proofs.Ytlndlbngfgaoeaa
set_option maxRecDepth 100000
set_option linter.unusedSimpArgs false
set_option linter.unusedVariables false
namespace Go.Proofs.Ytlndlbngfgaoeaa
open Go Ads
namespace Ir
open Edf

def pkE (kl : Nat) (lt : List Int) (y : Pt) (W : List Bool) (u d m : Nat) (J : List (Int × Int)) (i : Nat) : List (Nat × AV) :=
 [(2, .fz kl (ints lt)), (8, .fp (pt y).cells 0), (11, .fz 0 (blsC W)), (12, .sl 0 0 m m false), (13, .sl 1 0 m m false), (14, .int .i64 (d : Nat)), (15, .int .i64 (u : Nat)), (17, .int .i64 (pickN J i)), (18, .int .i64 (i : Nat))]
theorem ren_pk {kl : Nat} {lt : List Int} {y : Pt} {W : List Bool} {u d m i : Nat} {J : List (Int × Int)} {S : LS} {e1 : Env} {h1 : Heap} (h_2 : Tr.get e1 2 = some (.fz kl (ints lt))) (h_8 : Tr.get e1 8 = some (.fp (pt y).cells 0)) (h_11 : Tr.get e1 11 = some (.fz 0 (blsC W))) (h_12 : Tr.get e1 12 = some (.sl 0 0 m m false))
  (h_13 : Tr.get e1 13 = some (.sl 1 0 m m false)) (h_14 : Tr.get e1 14 = some (.int .i64 (d : Nat))) (h_15 : Tr.get e1 15 = some (.int .i64 (u : Nat))) (h_17 : Tr.get e1 17 = some (.int .i64 (pickN J i))) (h_18 : Tr.get e1 18 = some (.int .i64 (i : Nat))) (g0 : h1.get 0 = some (.cells (jc S.j) true 0)) (g1 : h1.get 1 = some (.cells (ints S.n) true 0)) :
  GC 0 id e1 h1 (ek 5 (pkE kl lt y W u d m J i)) (LSH S) :=
 gc3 id ⟨⟨_, h_2, .cl (by simp [AV.cl, cl_ints])⟩, ⟨_, h_8, .cl (cl_ptf y)⟩, ⟨_, h_11, .cl (by simp [AV.cl, cl_blsC])⟩, ⟨_, h_12, .sl (by omega)⟩, ⟨_, h_13, .sl (by omega)⟩, ⟨_, h_14, .cl rfl⟩, ⟨_, h_15, .cl rfl⟩, ⟨_, h_17, .cl rfl⟩, ⟨_, h_18, .cl rfl⟩, trivial⟩ (one_blk ⟨_, g0, renB_cl rfl (jc_cl _)⟩) (one_blk ⟨_, g1, renB_cl rfl (cl_ints _)⟩) no_blk (by decide) (by decide) (by decide) (by intro b hb; omega) (by omega)

theorem pick_in {Q : AX → Env → Heap → Prop} (kl : Nat) (lt : List Int) (y : Pt) (W : List Bool) (u d m : Nat) (S : LS) (hok : LSok m S) (hm4 : m ≤ 1000)
  (hK : VC fs ms 0 false (.loop L_escapementlaw10_LocalKeeps_2) (ek 5 (pkE kl lt y W u d m S.j m)) (LSH S) Q) :
  VC fs ms 0 false (.loop L_escapementlaw10_LocalKeeps_2) (ek 5 (pkE kl lt y W u d m S.j 0)) (LSH S) Q := by
 refine for_rowL 0 5 m (fun _ => True) (pkE kl lt y W u d m S.j) (fun _ => LSH S) ?_ (fun _ => hK) trivial
 clear hK
 intro i hi _
 obtain ⟨J, n, dd⟩ := S
 have hJl : J.length = m := hok.1
 have le := jc_e (J := J) (i := i) (by omega)
 have ll := jc_l (J := J) (i := i) (by omega)
 have hpk := pick_is J i
 have hnx : pickN J (i + 1) = if 0 < jL J i ∧ (pickN J i < 0 ∨ jE J i < jE J (pickN J i).toNat) then ((i : Nat) : Int) else pickN J i := rfl
 have hkE : ∀ k, k < J.length → (jc J)[k * 2 + 0]? = some (.int .i64 (jE J k)) := fun k hk => jc_e hk
 have hend : ∀ (e1 : Env) (h1 : Heap), Tr.get e1 2 = some (.fz kl (ints lt)) → Tr.get e1 8 = some (.fp (pt y).cells 0) → Tr.get e1 11 = some (.fz 0 (blsC W)) → Tr.get e1 12 = some (.sl 0 0 m m false) → Tr.get e1 13 = some (.sl 1 0 m m false) → Tr.get e1 14 = some (.int .i64 (d : Nat)) → Tr.get e1 15 = some (.int .i64 (u : Nat)) → Tr.get e1 17 = some (.int .i64 (pickN J (i + 1))) → Tr.get e1 18 = some (.int .i64 ((i + 1 : Nat) : Int)) →
   h1.get 0 = some (.cells (jc J) true 0) → h1.get 1 = some (.cells (ints n) true 0) → True ∧ ∃ p, GC 0 p e1 h1 (ek 5 (pkE kl lt y W u d m J (i + 1))) (LSH ⟨J, n, dd⟩) :=
  fun e1 h1 h_2 h_8 h_11 h_12 h_13 h_14 h_15 h_17 h_18 g0 g1 => ⟨trivial, id, ren_pk h_2 h_8 h_11 h_12 h_13 h_14 h_15 h_17 h_18 g0 g1⟩
 show vpC fs ms 0 false false _ (ek 5 [(2, .fz kl (ints lt)), (8, .fp (pt y).cells 0), (11, .fz 0 (blsC W)), (12, .sl 0 0 m m false), (13, .sl 1 0 m m false), (14, .int .i64 (d : Nat)), (15, .int .i64 (u : Nat)), (17, .int .i64 (pickN J i)), (18, .int .i64 (i : Nat))]) ⟨3, .node (.node .nil (some (.cells (ints n) true 0)) .nil) (some (.cells (jc J) true 0)) (.node .nil none .nil)⟩ _
 generalize pickN J i = pk at *
 conv => whnf
 refine brt (by simp; omega) (fun hc => ?_)
 (try rw [hc])
 conv => whnf
 refine ⟨_, idx_slS2 (by omega), ?_⟩
 conv => whnf
 refine op_some (ld1 rfl ll) ?_
 conv => whnf
 by_cases hl : 0 < jL J i
 ·refine brt (by simpa using hl) (fun hc => ?_)
  (try rw [hc])
  conv => whnf
  rcases hpk with ⟨h1, -⟩ | ⟨k, h1, h2, -⟩
  ·refine brt (by simpa using h1) (fun hc => ?_)
   (try rw [hc])
   conv => whnf
   rw [if_pos ⟨hl, .inl h1⟩] at hnx
   refine hend _ _ ?_ ?_ ?_ ?_ ?_ ?_ ?_ ?_ ?_ ?_ ?_ <;> first | rfl | (rw [hnx]; rfl) | exact inc_slot (j := i) (by omega)
  ·subst h1
   refine ⟨_, idx_slS2 (by omega), ?_⟩
   conv => whnf
   refine op_some (ld1 rfl le) ?_
   conv => whnf
   refine ⟨_, idx_slS2 (by omega), ?_⟩
   conv => whnf
   refine op_some (ld1 rfl (hkE k (by omega))) ?_
   conv => whnf
   rw [show ((k : Nat) : Int).toNat = k by simp] at hnx
   by_cases hlt : jE J i < jE J k
   ·refine brt (by simpa using hlt) (fun hc => ?_)
    (try rw [hc])
    conv => whnf
    rw [if_pos ⟨hl, .inr hlt⟩] at hnx
    refine hend _ _ ?_ ?_ ?_ ?_ ?_ ?_ ?_ ?_ ?_ ?_ ?_ <;> first | rfl | (rw [hnx]; rfl) | exact inc_slot (j := i) (by omega)
   ·refine brf (by simpa using hlt) (fun hc => ?_)
    (try rw [hc])
    conv => whnf
    rw [if_neg (fun h => h.2.elim (fun h => by omega) hlt)] at hnx
    refine hend _ _ ?_ ?_ ?_ ?_ ?_ ?_ ?_ ?_ ?_ ?_ ?_ <;> first | rfl | (rw [hnx]; rfl) | exact inc_slot (j := i) (by omega)
 ·refine brf (by simpa using hl) (fun hc => ?_)
  (try rw [hc])
  conv => whnf
  rw [if_neg (fun h => hl h.1)] at hnx
  refine hend _ _ ?_ ?_ ?_ ?_ ?_ ?_ ?_ ?_ ?_ ?_ ?_ <;> first | rfl | (rw [hnx]; rfl) | exact inc_slot (j := i) (by omega)

def kpE (kl : Nat) (lt : List Int) (y : Pt) (W : List Bool) (u d : Nat) : List (Nat × AV) :=
 [(2, .fz kl (ints lt)), (8, .fp (pt y).cells 0), (11, .fz 0 (blsC W)), (12, .sl 0 0 y.ts.length y.ts.length false), (13, .sl 1 0 y.ts.length y.ts.length false), (14, .int .i64 (d : Nat)), (15, .int .i64 (u : Nat))]
theorem ren_kp {kl : Nat} {lt : List Int} {y : Pt} {W : List Bool} {u d : Nat} {S : LS} {e1 : Env} {h1 : Heap} (h_2 : Tr.get e1 2 = some (.fz kl (ints lt))) (h_8 : Tr.get e1 8 = some (.fp (pt y).cells 0)) (h_11 : Tr.get e1 11 = some (.fz 0 (blsC W))) (h_12 : Tr.get e1 12 = some (.sl 0 0 y.ts.length y.ts.length false))
  (h_13 : Tr.get e1 13 = some (.sl 1 0 y.ts.length y.ts.length false)) (h_14 : Tr.get e1 14 = some (.int .i64 (d : Nat))) (h_15 : Tr.get e1 15 = some (.int .i64 (u : Nat))) (g0 : h1.get 0 = some (.cells (jc S.j) true 0)) (g1 : h1.get 1 = some (.cells (ints S.n) true 0)) :
  GC 0 id e1 h1 (ek 5 (kpE kl lt y W u d)) (LSH S) :=
 gc3 id ⟨⟨_, h_2, .cl (by simp [AV.cl, cl_ints])⟩, ⟨_, h_8, .cl (cl_ptf y)⟩, ⟨_, h_11, .cl (by simp [AV.cl, cl_blsC])⟩, ⟨_, h_12, .sl (by omega)⟩, ⟨_, h_13, .sl (by omega)⟩, ⟨_, h_14, .cl rfl⟩, ⟨_, h_15, .cl rfl⟩, trivial⟩ (one_blk ⟨_, g0, renB_cl rfl (jc_cl _)⟩) (one_blk ⟨_, g1, renB_cl rfl (cl_ints _)⟩) no_blk (by decide) (by decide) (by decide) (by intro b hb; omega) (by omega)

theorem keep_step (K : AX → Env → Heap → Prop) (kl : Nat) (lt : List Int) (y : Pt) (W : List Bool) (u : Nat) (S : LS) (ho : ∀ t, t ∈ y.ts → OkT t) (hok : LSok y.ts.length S) (hu : u < 400) (hW : 400 ≤ W.length) (hd : S.d ≤ 100000) (hm4 : y.ts.length ≤ 4) (hlt : lt.length < 2 ^ 62)
  (hmiss : ∀ i, i < y.ts.length → 0 < jL S.j i → ((u : Nat) : Int) < jE S.j i) (hl64 : ∀ i, i < y.ts.length → jL (relN 30 y.ts lt u S y.ts.length).j i ≤ 64)
  (hK : ∀ e1 h1, GC 0 id e1 h1 (ek 5 (kpE kl lt y W (u + 1) (stepS 30 y.ts lt (runsOf W) u S).d)) (LSH (stepS 30 y.ts lt (runsOf W) u S)) → K .normal e1 h1) :
  vpC fs ms 0 false false L_escapementlaw10_LocalKeeps_0 (ek 5 (kpE kl lt y W u S.d)) (LSH S) K := by
 have hokR := relN_ok (md := 30) (ts := y.ts) (lt := lt) (u := u) hok y.ts.length
 have hrel := fun (Q : AX → Env → Heap → Prop) => rel_in (Q := Q) kl lt y W u S ho hok (by omega) hd hm4 hlt hmiss
 have hst : stepS 30 y.ts lt (runsOf W) u S = ⟨execS y.ts.length (relN 30 y.ts lt u S y.ts.length).j (runsOf W u), (relN 30 y.ts lt u S y.ts.length).n, (relN 30 y.ts lt u S y.ts.length).d⟩ := rfl
 have hrun : runsOf W u = W[u]'(by omega) := by rw [runsOf, List.getD_eq_getElem?_getD, List.getElem?_eq_getElem (by omega)]; rfl
 have hix := idx_blC (l := W) (j := u) (k := 0) (by omega)
 rw [hrun] at hst
 generalize W[u]'(by omega) = run at *
 generalize stepS 30 y.ts lt (runsOf W) u S = S' at *
 generalize relN 30 y.ts lt u S y.ts.length = R at *
 unfold kpE
 obtain ⟨U, hU⟩ : ∃ U : Int, ((u : Nat) : Int) = U := ⟨_, rfl⟩
 have hU4 : U < 400 := by omega
 rw [hU]
 show vpC fs ms 0 false false _ (ek 5 [(2, .fz kl (ints lt)), (8, .fp (pt y).cells 0), (11, .fz 0 (blsC W)), (12, .sl 0 0 y.ts.length y.ts.length false), (13, .sl 1 0 y.ts.length y.ts.length false), (14, .int .i64 (S.d : Nat)), (15, .int .i64 U)]) ⟨3, .node (.node .nil (some (.cells (ints S.n) true 0)) .nil) (some (.cells (jc S.j) true 0)) (.node .nil none .nil)⟩ _
 conv => whnf
 refine brt (decide_eq_true hU4) (fun hc => ?_)
 (try rw [hc])
 conv => whnf
 refine vc_gc (ren_rel (S := S) (i := 0) rfl rfl rfl rfl rfl rfl (by rw [hU]; rfl) rfl rfl rfl) ?_
 refine hrel _ ?_
 refine vc_loop (z := false) ?_
 obtain ⟨J, n, d⟩ := R
 obtain ⟨m, hmm⟩ : ∃ m, y.ts.length = m := ⟨_, rfl⟩
 unfold relE
 rw [hmm]
 show vpC fs ms 0 false false _ (ek 5 [(2, .fz kl (ints lt)), (8, .fp (pt y).cells 0), (11, .fz 0 (blsC W)), (12, .sl 0 0 m m false), (13, .sl 1 0 m m false), (14, .int .i64 (d : Nat)), (15, .int .i64 (u : Nat)), (16, .int .i64 (m : Nat))]) ⟨3, .node (.node .nil (some (.cells (ints n) true 0)) .nil) (some (.cells (jc J) true 0)) (.node .nil none .nil)⟩ _
 conv => whnf
 refine brf (by simp) (fun hc => ?_)
 (try rw [hc])
 conv => whnf
 refine ⟨_, hix, ?_⟩
 conv => whnf
 have hJl : J.length = m := by rw [← hmm]; exact hokR.1
 have hgo : ∀ (S2 : LS) (e1 : Env) (h1 : Heap), S' = S2 → Tr.get e1 2 = some (.fz kl (ints lt)) → Tr.get e1 8 = some (.fp (pt y).cells 0) → Tr.get e1 11 = some (.fz 0 (blsC W)) → Tr.get e1 12 = some (.sl 0 0 m m false) → Tr.get e1 13 = some (.sl 1 0 m m false) → Tr.get e1 14 = some (.int .i64 (S2.d : Nat)) → Tr.get e1 15 = some (.int .i64 ((u + 1 : Nat) : Int)) →
   h1.get 0 = some (.cells (jc S2.j) true 0) → h1.get 1 = some (.cells (ints S2.n) true 0) → K .normal e1 h1 := by
  intro S2 e1 h1 hS h_2 h_8 h_11 h_12 h_13 h_14 h_15 g0 g1
  subst hS
  exact hK _ _ (ren_kp h_2 h_8 h_11 (by rw [hmm]; exact h_12) (by rw [hmm]; exact h_13) h_14 h_15 g0 g1)
 clear hK hrel
 simp only at hst
 rw [hmm] at hst hl64
 simp only at hl64
 cases run with
 | false =>
  conv => whnf
  refine hgo ⟨J, n, d⟩ _ _ ?_ rfl rfl rfl rfl rfl rfl (inc_slot (by omega)) rfl rfl
  rw [hst, execS, if_neg (fun h => absurd h.1 (by decide))]
 | true =>
  have hok2 : LSok m ⟨J, n, d⟩ := by rw [← hmm]; exact hokR
  conv => whnf
  refine vc_gc (ren_pk (S := ⟨J, n, d⟩) (J := J) (i := 0) (u := u) (d := d) (m := m) (kl := kl) (lt := lt) (y := y) (W := W) rfl rfl rfl rfl rfl rfl rfl rfl rfl rfl rfl) ?_
  refine pick_in kl lt y W u d m ⟨J, n, d⟩ hok2 (by omega) ?_
  refine vc_loop (z := false) ?_
  have hpk := pick_is J m
  show vpC fs ms 0 false false _ (ek 5 [(2, .fz kl (ints lt)), (8, .fp (pt y).cells 0), (11, .fz 0 (blsC W)), (12, .sl 0 0 m m false), (13, .sl 1 0 m m false), (14, .int .i64 (d : Nat)), (15, .int .i64 (u : Nat)), (17, .int .i64 (pickN J m)), (18, .int .i64 (m : Nat))]) ⟨3, .node (.node .nil (some (.cells (ints n) true 0)) .nil) (some (.cells (jc J) true 0)) (.node .nil none .nil)⟩ _
  have hex : execS m J true = if true = true ∧ 0 ≤ pickN J m then J.set (pickN J m).toNat (jE J (pickN J m).toNat, jL J (pickN J m).toNat - 1) else J := rfl
  rw [hex] at hst
  generalize pickN J m = pk at *
  conv => whnf
  refine brf (by simp) (fun hc => ?_)
  (try rw [hc])
  conv => whnf
  rcases hpk with ⟨h1, -⟩ | ⟨k, h1, h2, h3, -⟩
  ·refine brf (by simp; omega) (fun hc => ?_)
   (try rw [hc])
   conv => whnf
   refine hgo ⟨J, n, d⟩ _ _ ?_ rfl rfl rfl rfl rfl rfl (inc_slot (by omega)) rfl rfl
   rw [hst, if_neg (fun h => by omega)]
  ·subst h1
   rw [show ((k : Nat) : Int).toNat = k by simp, if_pos ⟨rfl, by omega⟩] at hst
   have hk64 := hl64 k h2
   have hld := jc_l (J := J) (i := k) (by omega)
   have hlf := jc_left (J := J) (i := k) (by omega) (jL J k - 1)
   have hw : IntKind.i64.wrap (jL J k - 1) = jL J k - 1 := IntWalk.i64_in _ (by omega)
   have hlen := jc_len J
   refine ⟨_, idx_slS2 (by omega), ?_⟩
   conv => whnf
   refine op_some (ld1 rfl hld) ?_
   conv => whnf
   refine ⟨_, idx_slS2 (by omega), ?_⟩
   conv => whnf
   rw [hw]
   refine brT (by show (Nat.ble (k * 2 + 1 + 1) (jc J).length && true) = true; rw [hlen, Bool.and_true]; exact Nat.ble_eq_true_of_le (by omega)) ?_
   conv => whnf
   refine hgo ⟨J.set k (jE J k, jL J k - 1), n, d⟩ _ _ hst rfl rfl rfl rfl rfl rfl (inc_slot (by omega)) (congrArg (fun c => some (Blk.cells c true 0)) hlf) rfl
end Ir
end Go.Proofs.Ytlndlbngfgaoeaa
