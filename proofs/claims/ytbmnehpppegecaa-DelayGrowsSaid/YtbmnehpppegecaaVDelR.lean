/-
  DelayGrows.
-/
import Derived.Test.YtbmnehpppegecaaVDelQ
set_option maxRecDepth 100000
set_option linter.unusedSimpArgs false
set_option linter.unusedVariables false
namespace Go.Proofs.Ytbmnehpppegecaa
open Go Ads
namespace Ir

theorem flat_pts : ∀ l : List Pt, flatL (flatCells (pts l)) = true
  | [] => rfl
  | x :: l => by
    show flatL (.int .i64 x.per :: .int .i64 x.bud :: .fz x.k (tks x.ts) :: flatCells (pts l)) = true
    simp only [flatL, AV.flat, cond_true]
    exact flat_pts l
theorem pts_flat_len (l : List Pt) : (flatCells (pts l)).length = l.length * 3 := by rw [flat_size (size_pts l), len_pts]

/-- One row put behind a new one, and one more. -/
theorem app_two {nx b : Nat} {tr : Tr Blk} {wr : Bool} {es : Nat} (hg : Heap.get ⟨nx, tr⟩ b = some (.cells [] wr es)) (k k2 : Nat) (l : List Pt) (y : Pt) (hl : l.length ≤ 1000) :
    ∃ v1 h1, eV (.append 3 40) [.sl b 0 0 0 false, .fz k (pts l)] ⟨nx, tr⟩ = some (v1, h1) ∧ ∃ b2 m h2, eV (.append 3 40) [v1, .fz k2 (pts [y])] h1 = some (.sl b2 0 m m true, h2) ∧ Frz (· ∈ [b2]) h2 (.sl b2 0 m m true) (.fz 0 (pts (l ++ [y]))) := by
  have hy : ∀ h, srcV 3 h (.fz k2 (pts [y])) = some (1, (pt y).cells) := fun h => rfl
  cases l with
  | nil =>
    refine ⟨_, _, app_lit0 (s := 3) (src_fz rfl) rfl, nx, 1, _, app_lit (n := 0) hg (by omega) (by omega) (hy _) rfl, ?_⟩
    refine frz_open (s := 3) (wr := true) (es := 3) (vs := flatCells (pts ([] ++ [y]))) (by simp) ?_ rfl (size_pts _) rfl (cl_pts _)
    show Tr.get (Tr.set tr nx _) nx = _
    rw [Tr.get_set, if_pos rfl]
    rfl
  | cons x l =>
    have e1 := app_lit (s := 3) (bytes := 40) (n := l.length) hg (by omega) (by simp at hl; omega) ((src_fz (k := k) (size_pts (x :: l))).trans (by rw [len_pts]; rfl)) (flat_pts (x :: l))
    have hg2 : Heap.get ⟨nx + 1, Tr.set tr nx (.cells (flatCells (pts (x :: l))) true 3)⟩ nx = some (.cells (flatCells (pts (x :: l))) true 3) := by
      show Tr.get (Tr.set tr nx _) nx = _
      rw [Tr.get_set, if_pos rfl]
    have e2 := app_openS (s := 3) (bytes := 40) (n := l.length + 1) hg2 (pts_flat_len (x :: l)) (by simp at hl; omega) (by omega) (hy _) rfl
    refine ⟨_, _, e1, nx + 1, l.length + 2, _, e2, ?_⟩
    refine frz_open (s := 3) (wr := true) (es := 3) (vs := flatCells (pts ((x :: l) ++ [y]))) (by simp) ?_ rfl (size_pts _) (by simp [len_pts]) (cl_pts _)
    show Tr.get (Tr.set _ (nx + 1) _) (nx + 1) = _
    rw [Tr.get_set, if_pos rfl, pts, pts, List.map_append, flat_app]
    rfl

/-- Do the first j tasks of y use it? -/
def us (ts : List Tk) (g : Int) (j : Nat) : Bool := (ts.take j).any fun t => t.c == g
def shs (x y : Pt) (j : Nat) : Bool := (x.ts.take j).any fun t => decide (t.c > 0) && usesP y t.c
theorem us_next {ts : List Tk} {g : Int} {j : Nat} (h : j < ts.length) : us ts g (j + 1) = (us ts g j || (ts[j].c == g)) := by
  simp only [us, take_next h, List.any_append, List.any_cons, List.any_nil, Bool.or_false]
theorem shs_next {x y : Pt} {j : Nat} (h : j < x.ts.length) : shs x y (j + 1) = (shs x y j || (decide (x.ts[j].c > 0) && usesP y x.ts[j].c)) := by
  simp only [shs, take_next h, List.any_append, List.any_cons, List.any_nil, Bool.or_false]

def G9 (k : Nat) (l : List Pt) (t : Int) (k2 : Nat) (y : Pt) (i : Nat) : List (Nat × AV) := [(0, .fz k (pts l)), (2, .int .i64 t), (7, .fz k2 (pts [y])), (8, .fz 0 (pts (l ++ [y]))), (9, .int .i64 (i : Nat))]

def W9 (k1 : Nat) (l : List Pt) (t : Int) (k2 : Nat) (y : Pt) (i : Nat) (S : Bool) (m1 m2 : List Int) (j : Nat) : List (Nat × AV) := [(0, .fz k1 (pts l)), (2, .int .i64 t), (7, .fz k2 (pts [y])), (8, .fz 0 (pts (l ++ [y]))), (9, .int .i64 (i : Nat)), (10, .bool S), (13, .fz 2 (ints m1)), (15, .fz 2 (ints m2)), (21, .int .i64 (j : Nat))]
theorem wloop9 {Q : AX → Env → Heap → Prop} (k1 : Nat) (l : List Pt) (t : Int) (k2 : Nat) (y : Pt) (i : Nat) (S : Bool) (m1 m2 : List Int) (x : Pt)
    (hi : i < 4) (hix : pV (.iaddrS 3) [.fz k1 (pts l), .int .i64 (i : Nat)] = some (.fp (pt x).cells 0)) (hxs : x.ts.length ≤ 4) (hyp : 1 ≤ y.per ∧ y.per ≤ 64) (h1 : m1.length = x.ts.length) (h2 : m2.length = x.ts.length)
    (wv ww : Tk → Int)
    (hw1 : ∀ (j : Nat) (hj : j < x.ts.length), PC fs ms f_delay_Wait [.fz k1 (pts l), .int .i64 (i : Nat), .int .i64 (j : Nat)] (.tup [.int .i64 (wv x.ts[j]), .int .i64 0]))
    (hw2 : ∀ (j : Nat) (hj : j < x.ts.length), PC fs ms f_delay_Wait [.fz 0 (pts (l ++ [y])), .int .i64 (i : Nat), .int .i64 (j : Nat)] (.tup [.int .i64 (ww x.ts[j]), .int .i64 0]))
    (hb : ∀ (k : Nat) (hk : k < x.ts.length), (∃ (h1 : k < m1.length) (h2 : k < m2.length), m1[k] ≤ m2[k]) ∧ wv x.ts[k] ≤ ww x.ts[k] ∧ ww x.ts[k] ≤ wv x.ts[k] + 2 * y.per)
    (hwv : ∀ t, 0 ≤ wv t ∧ wv t ≤ 512)
    (hK : VC fs ms 0 false (.loop L_escapementlaw09_DelayGrows_3) (ek 5 (W9 k1 l t k2 y i S m1 m2 x.ts.length)) (hk 0 []) Q) :
    VC fs ms 0 false (.loop L_escapementlaw09_DelayGrows_3) (ek 5 (W9 k1 l t k2 y i S m1 m2 0)) (hk 0 []) Q := by
  refine for_rowZ 5 x.ts.length (W9 k1 l t k2 y i S m1 m2) ?_ hK
  clear hK
  intro j hj
  have hj1 : j < m1.length := by omega
  have hj2 : j < m2.length := by omega
  have hidx := idx_tk (k := x.k) hj
  have hp1 := hw1 j hj
  have hp2 := hw2 j hj
  obtain ⟨⟨_, _, b1⟩, b2, b3⟩ := hb j hj
  have b4 := hwv x.ts[j]
  have hi1 := idx_int (k := 2) hj1
  have hi2 := idx_int (k := 2) hj2
  have hi0 : pV (.iaddrS 3) [.fz k2 (pts [y]), .int .i64 0] = some (.fp (pt y).cells 0) := idx_pt (l := [y]) (j := 0) (k := k2) (by simp)
  generalize x.ts[j] = u at *
  generalize m1[j] = p1 at *
  generalize m2[j] = p2 at *
  generalize wv u = v1 at *
  generalize ww u = v2 at *
  have e1 : IntKind.i64.wrap (2 * y.per) = 2 * y.per := IntWalk.i64_in _ (by omega)
  have e2 : IntKind.i64.wrap (v1 + 2 * y.per) = v1 + 2 * y.per := IntWalk.i64_in _ (by omega)
  conv => whnf
  refine brt (by rw [len_ints]; simp; omega) (fun hc => ?_)
  (try rw [hc])
  conv => whnf
  refine vd_pure (hp1) ?_
  conv => whnf
  refine vd_pure (hp2) ?_
  conv => whnf
  refine brf (decide_eq_false (by omega)) (fun hc => ?_)
  (try rw [hc])
  conv => whnf
  refine ⟨_, hi2, ?_⟩
  conv => whnf
  refine ⟨_, hi1, ?_⟩
  conv => whnf
  refine brf (decide_eq_false (by omega)) (fun hc => ?_)
  (try rw [hc])
  conv => whnf
  refine ⟨_, hix, ?_⟩
  conv => whnf
  refine ⟨_, hidx, ?_⟩
  conv => whnf
  by_cases hg : u.c > 0
  · refine brt (decide_eq_true hg) (fun hc => ?_)
    (try rw [hc])
    conv => whnf
    cases S with
    | true =>
      conv => whnf
      refine ⟨_, hi0, ?_⟩
      conv => whnf
      refine brt (decide_eq_true (by omega)) (fun hc => ?_)
      (try rw [hc])
      conv => whnf
      refine ⟨_, hi0, ?_⟩
      conv => whnf
      rw [e1]
      conv => whnf
      rw [e2]
      conv => whnf
      refine brf (decide_eq_false (by omega)) (fun hc => ?_)
      (try rw [hc])
      conv => whnf
      exact ⟨trivial, (by repeat' (first | exact trivial | refine renAt_sl rfl (by omega) ?_ | refine renAt_ptr rfl (by omega) ?_ | refine renAt_yield rfl (by omega) ?_ | refine renAt_cl rfl (by first | rfl | simp [clL, AV.cl, cl_ints, cl_pts]) ?_ | refine renAt_cl (inc_slot (by omega)) rfl ?_))⟩
    | false =>
      conv => whnf
      exact ⟨trivial, (by repeat' (first | exact trivial | refine renAt_sl rfl (by omega) ?_ | refine renAt_ptr rfl (by omega) ?_ | refine renAt_yield rfl (by omega) ?_ | refine renAt_cl rfl (by first | rfl | simp [clL, AV.cl, cl_ints, cl_pts]) ?_ | refine renAt_cl (inc_slot (by omega)) rfl ?_))⟩
  · refine brf (decide_eq_false hg) (fun hc => ?_)
    (try rw [hc])
    conv => whnf
    exact ⟨trivial, (by repeat' (first | exact trivial | refine renAt_sl rfl (by omega) ?_ | refine renAt_ptr rfl (by omega) ?_ | refine renAt_yield rfl (by omega) ?_ | refine renAt_cl rfl (by first | rfl | simp [clL, AV.cl, cl_ints, cl_pts]) ?_ | refine renAt_cl (inc_slot (by omega)) rfl ?_))⟩

set_option maxHeartbeats 4000000 in
theorem grows_c (k : Nat) (l0 : List Pt) (one : Pt) (t0 : Int) (hs0 : Small l0) (hone : one.ts.length ≤ 17592186044416) : PC fs ms f_escapementlaw09_DelayGrows [.fz k (pts l0), pt one, .int .i64 t0] (.bool true) := by
  refine pc_of (by simp [clL, AV.cl, cl_pts, cl_pt]) rfl ?_
  refine vd_start (af := C_escapementlaw09_DelayGrows) false rfl (Nat.le_of_ble_eq_true rfl) ?_
  generalize hQ : (fun (v : AV) (_ : Heap) => v = .bool true) = Q
  conv => whnf
  refine vd_pure (works9_c) ?_
  conv => whnf
  refine vd_pure (made9_c k l0 3 (by omega) hs0) ?_
  conv => whnf
  refine vd_frzH [1] (H := ⟨2, .node (.node .nil none .nil) (some (.cells (pt one).cells true 0)) .nil⟩) rfl (args' := [.fz 0 (pts [one]), .int .i64 ((1 : Nat) : Int)]) (.cons (.row (s := 3) (by simp) rfl (by rfl) (size_pts [one]) rfl (Nat.le_refl _) (by omega) (fun h => by omega) (fun h => by omega) (cl_pts [one])) (.cons (.clean rfl) .nil)) (vd_pure (made9_c 0 [one] 1 (by omega) ⟨by simp, by simpa using hone⟩) ?_)
  conv => whnf
  refine vd_pure (bring_c t0 70 (by omega) (by omega)) ?_
  conv => whnf
  have h := mkPs_ok l0 3 (by omega)
  have hs := mkPs_small l0 3 (by omega)
  have hl3 : (mkPs l0 3).length ≤ 3 := by simp [mkPs]; omega
  have hyok := mkP_ok one
  rw [show mkPs [one] 1 = [mkP one] from rfl]
  generalize mkPs l0 3 = l at *
  generalize mkP one = y at *
  have hb := big_ok h hyok hl3
  have hsb : Small (l ++ [y]) := ⟨by simp; omega, fun x hx => by have := ((ok_in hb).2 x hx).2.1; omega⟩
  have ht : 0 ≤ bring t0 70 := Int.emod_nonneg t0 (show (70 : Int) ≠ 0 by omega)
  generalize bring t0 70 = t at *
  generalize growK l.length = k1
  generalize growK [y].length = k2
  obtain ⟨v1, h1, e1, b2, m, h2, e2, e3⟩ := app_two (b := 2) (es := 0) (wr := true) (nx := 3) (tr := .node (.node .nil none .nil) (some (Blk.cells (pt one).cells true 0)) (.node .nil (some (.cells [] true 0)) .nil)) rfl k1 k2 l y (by omega)
  refine ⟨v1, h1, e1, ?_⟩
  conv => whnf
  refine ⟨_, _, e2, ?_⟩
  conv => whnf
  refine vc_frz [b2] (i := 8) (v' := .fz 0 (pts (l ++ [y]))) rfl e3 ?_
  refine vc_to0 5 [(0, .fz k1 (pts l)), (2, .int .i64 t), (7, .fz k2 (pts [y])), (8, .fz 0 (pts (l ++ [y]))), (9, .int .i64 ((0 : Nat) : Int))] (by repeat' (first | exact trivial | refine renAt_sl rfl (by omega) ?_ | refine renAt_ptr rfl (by omega) ?_ | refine renAt_yield rfl (by omega) ?_ | refine renAt_cl rfl (by first | rfl | simp [clL, AV.cl, cl_ints, cl_pts]) ?_ | refine renAt_cl (inc_slot (by omega)) rfl ?_)) ?_
  clear e1 e2 e3
  refine for_row 5 l.length (fun _ => True) (fun i => [(0, .fz k1 (pts l)), (2, .int .i64 t), (7, .fz k2 (pts [y])), (8, .fz 0 (pts (l ++ [y]))), (9, .int .i64 (i : Nat))]) ?_ ?_ trivial
  · intro i hi _
    have hib : i < (l ++ [y]).length := by simp; omega
    have hall := grows_all h hb i hi t
    have hx : l[i] ∈ l := List.getElem_mem hi
    have hix := idx_pt (k := k1) hi
    have hxs := ((ok_in h).2 _ hx).2.1
    have hmore1 := more_ok (k := k1) hs h hi
    have hmore2 := more_ok (k := 0) hsb hb hib
    have hof1 := dOf9_c k1 l (i : Nat) t hs
    have hof2 := dOf9_c 0 (l ++ [y]) (i : Nat) t hsb
    rw [dOf9_ok h hi ht] at hof1
    rw [dOf9_ok hb hib ht] at hof2
    have hgb : (l ++ [y])[i] = l[i] := List.getElem_append_left hi
    rw [hgb] at hof2
    have hw1 : ∀ (j : Nat) (hj : j < l[i].ts.length), PC fs ms f_delay_Wait [.fz k1 (pts l), .int .i64 (i : Nat), .int .i64 (j : Nat)] (.tup [.int .i64 (waitS l (i : Nat) l[i].ts[j]), .int .i64 0]) := by
      intro j hj
      have := dWait_c k1 l (i : Nat) (j : Nat) hs
      rwa [dWait_ok h hi hj] at this
    have hw2 : ∀ (j : Nat) (hj : j < l[i].ts.length), PC fs ms f_delay_Wait [.fz 0 (pts (l ++ [y])), .int .i64 (i : Nat), .int .i64 (j : Nat)] (.tup [.int .i64 (waitS (l ++ [y]) (i : Nat) l[i].ts[j]), .int .i64 0]) := by
      intro j hj
      have := dWait_c 0 (l ++ [y]) (i : Nat) (j : Nat) hsb
      rw [dWait_ok hb hib (by rw [hgb]; exact hj)] at this
      simp only [hgb] at this
      exact this
    have hyx := ((ok_in hb).2 y (by simp)).2.1
    have hyp2 : 1 ≤ y.per ∧ y.per ≤ 64 := by have := ((ok_in hb).2 y (by simp)).1; unfold partIn at this; omega
    have hyp : 1 ≤ y.per := by have := ((ok_in hb).2 y (by simp)).1; unfold partIn at this; omega
    have hmlen : (moreL l i).length = l[i].ts.length ∧ (moreL (l ++ [y]) i).length = l[i].ts.length := by
      constructor
      · rw [moreL, List.getElem?_eq_getElem hi]; simp
      · rw [moreL, List.getElem?_append_left hi, List.getElem?_eq_getElem hi]; simp
    generalize ofN l (i : Nat) t l[i].ts l[i].ts.length = c1 at *
    generalize ofN (l ++ [y]) (i : Nat) t l[i].ts l[i].ts.length = c2 at *
    generalize moreL l i = m1 at *
    generalize moreL (l ++ [y]) i = m2 at *
    generalize l[i] = x at *
    have hsh : ∀ S, S = shs x y x.ts.length → S = shares x y := by
      rintro S rfl
      rw [shs, List.take_length]
      rfl
    conv => whnf
    refine brt (by rw [len_pts]; simp; omega) (fun hc => ?_)
    (try rw [hc])
    conv => whnf
    refine vc_to0 5 [(0, .fz k1 (pts l)), (2, .int .i64 t), (7, .fz k2 (pts [y])), (8, .fz 0 (pts (l ++ [y]))), (9, .int .i64 (i : Nat)), (10, .bool (shs x y 0)), (11, .int .i64 ((0 : Nat) : Int))] (by repeat' (first | exact trivial | refine renAt_sl rfl (by omega) ?_ | refine renAt_ptr rfl (by omega) ?_ | refine renAt_yield rfl (by omega) ?_ | refine renAt_cl rfl (by first | rfl | simp [clL, AV.cl, cl_ints, cl_pts]) ?_ | refine renAt_cl (inc_slot (by omega)) rfl ?_)) ?_
    refine for_row 5 x.ts.length (fun _ => True) (fun a => [(0, .fz k1 (pts l)), (2, .int .i64 t), (7, .fz k2 (pts [y])), (8, .fz 0 (pts (l ++ [y]))), (9, .int .i64 (i : Nat)), (10, .bool (shs x y a)), (11, .int .i64 (a : Nat))]) ?_ ?_ trivial
    · intro a ha _
      have hsn := shs_next (y := y) ha
      have hidx := idx_tk (k := x.k) ha
      generalize x.ts[a] = u at *
      generalize shs x y (a + 1) = S1 at *
      show vpC fs ms 0 false false _ (ek 5 [(0, .fz k1 (pts l)), (2, .int .i64 t), (7, .fz k2 (pts [y])), (8, .fz 0 (pts (l ++ [y]))), (9, .int .i64 (i : Nat)), (10, .bool (shs x y a)), (11, .int .i64 (a : Nat))]) _ _
      generalize shs x y a = S at *
      conv => whnf
      refine ⟨_, hix, ?_⟩
      conv => whnf
      refine brt (by rw [len_tks]; simp; omega) (fun hc => ?_)
      (try rw [hc])
      conv => whnf
      generalize hdd : decide (u.c > 0) = dd at *
      refine vc_to0 5 [(0, .fz k1 (pts l)), (2, .int .i64 t), (7, .fz k2 (pts [y])), (8, .fz 0 (pts (l ++ [y]))), (9, .int .i64 (i : Nat)), (10, .bool (S || (dd && us y.ts u.c 0))), (11, .int .i64 (a : Nat)), (12, .int .i64 ((0 : Nat) : Int))] ⟨⟨_, rfl, .cl (by simp [AV.cl, cl_pts])⟩, ⟨_, rfl, .cl rfl⟩, ⟨_, rfl, .cl (by simp [AV.cl, cl_pts])⟩, ⟨_, rfl, .cl (by simp [AV.cl, cl_pts])⟩, ⟨_, rfl, .cl rfl⟩, ⟨_, congrArg (fun v => some (AV.bool v)) (by cases S <;> cases dd <;> rfl), .cl rfl⟩, ⟨_, rfl, .cl rfl⟩, ⟨_, rfl, .cl rfl⟩, trivial⟩ ?_
      refine for_row 5 y.ts.length (fun _ => True) (fun b => [(0, .fz k1 (pts l)), (2, .int .i64 t), (7, .fz k2 (pts [y])), (8, .fz 0 (pts (l ++ [y]))), (9, .int .i64 (i : Nat)), (10, .bool (S || (dd && us y.ts u.c b))), (11, .int .i64 (a : Nat)), (12, .int .i64 (b : Nat))]) ?_ ?_ trivial
      · intro b hb' _
        have hun := us_next (g := u.c) hb'
        have hidy := idx_tk (k := y.k) hb'
        have hi0 : pV (.iaddrS 3) [.fz k2 (pts [y]), .int .i64 0] = some (.fp (pt y).cells 0) := idx_pt (l := [y]) (j := 0) (k := k2) (by simp)
        generalize y.ts[b] = w at *
        generalize us y.ts u.c (b + 1) = U1 at *
        show vpC fs ms 0 false false _ (ek 5 [(0, .fz k1 (pts l)), (2, .int .i64 t), (7, .fz k2 (pts [y])), (8, .fz 0 (pts (l ++ [y]))), (9, .int .i64 (i : Nat)), (10, .bool (S || (dd && us y.ts u.c b))), (11, .int .i64 (a : Nat)), (12, .int .i64 (b : Nat))]) _ _
        generalize us y.ts u.c b = U at *
        have hV' : ∀ v, v = (S || (dd && U) || (dd && (w.c == u.c))) → v = (S || (dd && U1)) := by
          rintro v rfl
          rw [hun]
          cases S <;> cases dd <;> cases U <;> rfl
        generalize hV : (S || (dd && U)) = V at *
        cases V with
        | true =>
          conv => whnf
          refine ⟨_, hi0, ?_⟩
          conv => whnf
          refine brt (by rw [len_tks]; simp; omega) (fun hc => ?_)
          (try rw [hc])
          conv => whnf
          refine ⟨trivial, ⟨⟨_, rfl, .cl (by simp [AV.cl, cl_pts])⟩, ⟨_, rfl, .cl rfl⟩, ⟨_, rfl, .cl (by simp [AV.cl, cl_pts])⟩, ⟨_, rfl, .cl (by simp [AV.cl, cl_pts])⟩, ⟨_, rfl, .cl rfl⟩, ⟨_, congrArg (fun v => some (AV.bool v)) (hV' _ rfl), .cl rfl⟩, ⟨_, rfl, .cl rfl⟩, ⟨_, inc_slot (by omega), .cl rfl⟩, trivial⟩⟩
        | false =>
          conv => whnf
          refine ⟨_, hi0, ?_⟩
          conv => whnf
          refine brt (by rw [len_tks]; simp; omega) (fun hc => ?_)
          (try rw [hc])
          conv => whnf
          refine ⟨_, hix, ?_⟩
          conv => whnf
          refine ⟨_, hidx, ?_⟩
          conv => whnf
          cases dd with
          | true =>
            refine brt (hdd) (fun hc => ?_)
            (try rw [hc])
            conv => whnf
            refine ⟨_, hix, ?_⟩
            conv => whnf
            refine ⟨_, hidx, ?_⟩
            conv => whnf
            refine ⟨_, hi0, ?_⟩
            conv => whnf
            refine ⟨_, hidy, ?_⟩
            conv => whnf
            refine ⟨trivial, ⟨⟨_, rfl, .cl (by simp [AV.cl, cl_pts])⟩, ⟨_, rfl, .cl rfl⟩, ⟨_, rfl, .cl (by simp [AV.cl, cl_pts])⟩, ⟨_, rfl, .cl (by simp [AV.cl, cl_pts])⟩, ⟨_, rfl, .cl rfl⟩, ⟨_, congrArg (fun v => some (AV.bool v)) (hV' _ (by show _ = (w.c == u.c); rw [Bool.eq_iff_iff]; simp; omega)), .cl rfl⟩, ⟨_, rfl, .cl rfl⟩, ⟨_, inc_slot (by omega), .cl rfl⟩, trivial⟩⟩
          | false =>
            refine brf (hdd) (fun hc => ?_)
            (try rw [hc])
            conv => whnf
            refine ⟨trivial, ⟨⟨_, rfl, .cl (by simp [AV.cl, cl_pts])⟩, ⟨_, rfl, .cl rfl⟩, ⟨_, rfl, .cl (by simp [AV.cl, cl_pts])⟩, ⟨_, rfl, .cl (by simp [AV.cl, cl_pts])⟩, ⟨_, rfl, .cl rfl⟩, ⟨_, congrArg (fun v => some (AV.bool v)) (hV' _ rfl), .cl rfl⟩, ⟨_, rfl, .cl rfl⟩, ⟨_, inc_slot (by omega), .cl rfl⟩, trivial⟩⟩
      · intro _
        have hi0 : pV (.iaddrS 3) [.fz k2 (pts [y]), .int .i64 0] = some (.fp (pt y).cells 0) := idx_pt (l := [y]) (j := 0) (k := k2) (by simp)
        have hue : us y.ts u.c y.ts.length = usesP y u.c := by rw [us, List.take_length]; rfl
        conv => whnf
        refine ⟨_, hi0, ?_⟩
        conv => whnf
        refine brf (by rw [len_tks]; simp) (fun hc => ?_)
        (try rw [hc])
        conv => whnf
        rw [hue, ← hsn]
        refine ⟨trivial, ⟨⟨_, rfl, .cl (by simp [AV.cl, cl_pts])⟩, ⟨_, rfl, .cl rfl⟩, ⟨_, rfl, .cl (by simp [AV.cl, cl_pts])⟩, ⟨_, rfl, .cl (by simp [AV.cl, cl_pts])⟩, ⟨_, rfl, .cl rfl⟩, ⟨_, congrArg (fun v => some (AV.bool v)) (rfl), .cl rfl⟩, ⟨_, inc_slot (by omega), .cl rfl⟩, trivial⟩⟩
    · intro _
      have hS := hsh _ rfl
      show vpC fs ms 0 false false _ (ek 5 [(0, .fz k1 (pts l)), (2, .int .i64 t), (7, .fz k2 (pts [y])), (8, .fz 0 (pts (l ++ [y]))), (9, .int .i64 (i : Nat)), (10, .bool (shs x y x.ts.length)), (11, .int .i64 (x.ts.length : Nat))]) _ _
      generalize shs x y x.ts.length = S at *
      subst hS
      conv => whnf
      refine ⟨_, hix, ?_⟩
      conv => whnf
      refine brf (by rw [len_tks]; simp) (fun hc => ?_)
      (try rw [hc])
      conv => whnf
      refine vd_pure (hmore1) ?_
      conv => whnf
      refine vd_pure (hmore2) ?_
      conv => whnf
      refine vd_pure (hof1) ?_
      conv => whnf
      refine vd_pure (hof2) ?_
      conv => whnf
      refine brf (by simp [len_ints, hmlen.1, hmlen.2]) (fun hc => ?_)
      (try rw [hc])
      conv => whnf
      refine ⟨_, hix, ?_⟩
      conv => whnf
      refine brf (by simp [len_ints, len_tks, hmlen.1, hmlen.2]) (fun hc => ?_)
      (try rw [hc])
      conv => whnf
      refine brf (decide_eq_false (by omega)) (fun hc => ?_)
      (try rw [hc])
      conv => whnf
      generalize shares x y = S at *
      cases S with
      | true =>
        conv => whnf
        refine vc_to0 5 (W9 k1 l t k2 y i true m1 m2 0) (by repeat' (first | exact trivial | refine renAt_sl rfl (by omega) ?_ | refine renAt_ptr rfl (by omega) ?_ | refine renAt_yield rfl (by omega) ?_ | refine renAt_cl rfl (by first | rfl | simp [clL, AV.cl, cl_ints, cl_pts]) ?_ | refine renAt_cl (inc_slot (by omega)) rfl ?_)) ?_
        refine wloop9 k1 l t k2 y i true m1 m2 x (by omega) hix hxs hyp2 hmlen.1 hmlen.2 (waitS l (i : Nat)) (waitS (l ++ [y]) (i : Nat)) hw1 hw2 hall.2.2 (fun t => waitS_in h _ t) ?_
        refine vc_loop (z := false) ?_
        conv => whnf
        refine brf (by rw [len_ints]; simp; omega) (fun hc => ?_)
        (try rw [hc])
        conv => whnf
        exact ⟨trivial, (by repeat' (first | exact trivial | refine renAt_sl rfl (by omega) ?_ | refine renAt_ptr rfl (by omega) ?_ | refine renAt_yield rfl (by omega) ?_ | refine renAt_cl rfl (by first | rfl | simp [clL, AV.cl, cl_ints, cl_pts]) ?_ | refine renAt_cl (inc_slot (by omega)) rfl ?_))⟩
      | false =>
        obtain ⟨rfl, rfl⟩ := hall.2.1 rfl
        conv => whnf
        refine brf (by simp) (fun hc => ?_)
        (try rw [hc])
        conv => whnf
        refine vd_pure (eqInts_same 2 2 m2 (by omega)) ?_
        conv => whnf
        refine vc_to0 5 (W9 k1 l t k2 y i false m2 m2 0) (by repeat' (first | exact trivial | refine renAt_sl rfl (by omega) ?_ | refine renAt_ptr rfl (by omega) ?_ | refine renAt_yield rfl (by omega) ?_ | refine renAt_cl rfl (by first | rfl | simp [clL, AV.cl, cl_ints, cl_pts]) ?_ | refine renAt_cl (inc_slot (by omega)) rfl ?_)) ?_
        refine wloop9 k1 l t k2 y i false m2 m2 x (by omega) hix hxs hyp2 hmlen.2 hmlen.2 (waitS l (i : Nat)) (waitS (l ++ [y]) (i : Nat)) hw1 hw2 hall.2.2 (fun t => waitS_in h _ t) ?_
        refine vc_loop (z := false) ?_
        conv => whnf
        refine brf (by rw [len_ints]; simp; omega) (fun hc => ?_)
        (try rw [hc])
        conv => whnf
        exact ⟨trivial, (by repeat' (first | exact trivial | refine renAt_sl rfl (by omega) ?_ | refine renAt_ptr rfl (by omega) ?_ | refine renAt_yield rfl (by omega) ?_ | refine renAt_cl rfl (by first | rfl | simp [clL, AV.cl, cl_ints, cl_pts]) ?_ | refine renAt_cl (inc_slot (by omega)) rfl ?_))⟩
  · intro _
    conv => whnf
    refine brf (by rw [len_pts]; simp) (fun hc => ?_)
    (try rw [hc])
    conv => whnf
    subst hQ
    rfl
end Ir
end Go.Proofs.Ytbmnehpppegecaa
