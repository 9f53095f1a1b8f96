/-
  Local: what Test answers.
-/
import Derived.Test.YtepdklcpagielaaVLocB
set_option maxRecDepth 100000
set_option linter.unusedSimpArgs false
set_option linter.unusedVariables false
namespace Go.Proofs.Ytepdklcpagielaa
open Go Ads
namespace Ir

/-- The greatest deadline. -/
def farN (ts : List Tk) : Nat → Int
  | 0 => 0
  | j + 1 => match ts[j]? with
    | some t => mx (farN ts j) t.d
    | none => farN ts j
theorem farN_next {ts : List Tk} {j : Nat} (h : j < ts.length) : farN ts (j + 1) = mx (farN ts j) ts[j].d := by
  rw [farN, List.getElem?_eq_getElem h]
theorem farN_in {ts : List Tk} (h : ∀ t, t ∈ ts → 1 ≤ t.d ∧ t.d ≤ 64) : ∀ j, j ≤ ts.length → 0 ≤ farN ts j ∧ farN ts j ≤ 64 ∧ ∀ (i : Nat) (hi : i < ts.length), i < j → ts[i].d ≤ farN ts j
  | 0, _ => ⟨by simp [farN], by simp [farN], fun i _ h => by omega⟩
  | j + 1, hj => by
    have hlt : j < ts.length := by omega
    obtain ⟨h1, h2, h3⟩ := farN_in h j (by omega)
    have h4 := h _ (List.getElem_mem hlt)
    rw [farN_next hlt, mx_max]
    refine ⟨by omega, by omega, fun i hi hij => ?_⟩
    by_cases hij2 : i = j
    · subst hij2; omega
    · have := h3 i hi (by omega); omega
def endS (x : Pt) (h : Int) : Int := sumW [h, farN x.ts x.ts.length, x.per, x.per]

/-- What Test answers of a partition with tasks. -/
def testP (x : Pt) (l : List Pt) (a : Int) (m : List Int) : Int × Int :=
  if (hypS x.ts x.per).2 ≠ 0 then (0, (hypS x.ts x.per).2)
  else if (dUse x.ts m (hypS x.ts x.per).1).1 > IntKind.i64.wrap (IntKind.i64.wrap ((hypS x.ts x.per).1.tdiv x.per) * x.bud) then (0, 120)
  else match firstBad (badB x l a m) 1 (endS x (hypS x.ts x.per).1).toNat with
    | some t => ((t : Nat), 120)
    | none => (0, 0)
def testS (l : List Pt) (a : Int) : Int × Int := if delCheck l = 2 then (0, 2) else if a < 0 then (0, 9) else match l[a.toNat]? with
  | none => (0, 9)
  | some x => if x.ts.length = 0 then (0, 0) else testP x l a (moreL l a.toNat)

theorem endS_in {x : Pt} {h : Int} (hh : 0 ≤ h ∧ h ≤ 4096) (hf : 0 ≤ farN x.ts x.ts.length ∧ farN x.ts x.ts.length ≤ 64) (hp : 1 ≤ x.per ∧ x.per ≤ 64) : endS x h = h + farN x.ts x.ts.length + x.per + x.per := by
  simp only [endS, sumW, List.foldl_cons, List.foldl_nil]
  rw [IntWalk.i64_in (0 + _) (by omega), IntWalk.i64_in (0 + h + _) (by omega), IntWalk.i64_in (0 + h + _ + _) (by omega), IntWalk.i64_in _ (by omega)]
  omega

theorem hyp_in (ts : List Tk) (n : Int) (h : (hypS ts n).2 = 0) : 0 ≤ (hypS ts n).1 ∧ (hypS ts n).1 ≤ 4096 := by
  unfold hypS at h ⊢
  split
  · split
    · rename_i h1 h2
      constructor
      · show (0 : Int) ≤ ((hypN ts n.toNat : Nat) : Int); omega
      · show ((hypN ts n.toNat : Nat) : Int) ≤ 4096; omega
    · simp
  · simp

set_option maxHeartbeats 1000000 in
theorem ltest_c (k : Nat) (l : List Pt) (a : Int) (hs : Small l) : PC fs ms f_local_Test [.fz k (pts l), .int .i64 a] (pairI (testS l a)) := by
  refine pc_of (by simp [clL, AV.cl, cl_pts]) rfl ?_
  refine vd_start (af := C_local_Test) false rfl (Nat.le_of_ble_eq_true rfl) ?_
  generalize hQ : (fun (v : AV) (_ : Heap) => v = pairI (testS l a)) = Q
  set_option smartUnfolding false in conv => whnf
  rcases delCheck_or l with h | h
  · by_cases ha : a < 0 ∨ l.length ≤ a
    · refine vd_pure (lof_out k l a hs h ha) ?_
      set_option smartUnfolding false in conv => whnf
      refine ⟨winOk_of (by (set_option smartUnfolding false in conv => whnf); repeat' (first | exact trivial | (exact ⟨rfl, rfl, .inr ⟨_, _, rfl⟩⟩) | (refine ⟨rfl, rfl, .inl ⟨rfl, fun o ho => ?_⟩⟩; cases ho; first | rfl) | (exact ⟨rfl, .inr ⟨_, _, rfl⟩⟩) | (refine ⟨rfl, .inl ⟨rfl, fun i o hi ho => ?_⟩⟩; cases hi; cases ho; first | rfl) | (refine And.intro (fun _ => ?_) ?_ <;> set_option smartUnfolding false in conv => whnf) | (refine And.intro ?_ ?_ <;> set_option smartUnfolding false in conv => whnf))), ?_⟩
      set_option smartUnfolding false in conv => whnf
      subst hQ
      rw [testS, if_neg (by omega)]
      by_cases h0 : a < 0
      · rw [if_pos h0]; rfl
      · rw [if_neg h0, List.getElem?_eq_none (by omega)]; rfl
    · obtain ⟨i, rfl⟩ := Int.eq_ofNat_of_zero_le (show 0 ≤ a by omega)
      have hi : i < l.length := by omega
      have hd : testS l (i : Nat) = if l[i].ts.length = 0 then (0, 0) else testP l[i] l (i : Nat) (moreL l i) := by
        rw [testS, if_neg (by omega), if_neg (by omega), show ((i : Int)).toNat = i from rfl, List.getElem?_eq_getElem hi]
      have hts := hs.2 _ (List.getElem_mem hi)
      have hml := moreL_len hi
      have hok := (ok_in h).2 _ (List.getElem_mem hi)
      have hof := lof_ok k l i hs h hi
      generalize moreL l i = M at *
      generalize l[i] = x at *
      have hdl : ∀ t, t ∈ x.ts → 1 ≤ t.d ∧ t.d ≤ 64 := fun t ht => by have := taskOk_in (hok.2.2 t ht).1; omega
      have hpi := hok.1
      unfold partIn at hpi
      refine vd_pure (hof) ?_
      set_option smartUnfolding false in conv => whnf
      by_cases h0 : x.ts.length = 0
      · rw [len_tks, h0]
        set_option smartUnfolding false in conv => whnf
        refine ⟨winOk_of (by (set_option smartUnfolding false in conv => whnf); repeat' (first | exact trivial | (exact ⟨rfl, rfl, .inr ⟨_, _, rfl⟩⟩) | (refine ⟨rfl, rfl, .inl ⟨rfl, fun o ho => ?_⟩⟩; cases ho; first | rfl) | (exact ⟨rfl, .inr ⟨_, _, rfl⟩⟩) | (refine ⟨rfl, .inl ⟨rfl, fun i o hi ho => ?_⟩⟩; cases hi; cases ho; first | rfl) | (refine And.intro (fun _ => ?_) ?_ <;> set_option smartUnfolding false in conv => whnf) | (refine And.intro ?_ ?_ <;> set_option smartUnfolding false in conv => whnf))), ?_⟩
        set_option smartUnfolding false in conv => whnf
        subst hQ
        rw [hd, if_pos h0]
        rfl
      · rw [if_neg h0] at hd
        refine brf (by rw [len_tks]; simpa using h0) (fun hc => ?_)
        (try rw [hc])
        set_option smartUnfolding false in conv => whnf
        have hl4 := hok.2.1
        have hhy := dhyper_c x.k x.ts x.per (by omega)
        have hpu := fun n => duse_c x.k 2 x.ts M n (by omega) (by omega)
        have hhin := hyp_in x.ts x.per
        have hfar := farN_in hdl x.ts.length (Nat.le_refl _)
        have hlit := fun (fin : Nat) (hfin : fin < 1048576) (F : AV) (hF : F.cl = true) => liter x k l (i : Nat) M fin hfin hF hs hts (by omega)
        have hsl := fun n => slacks_c x k l (i : Nat) M n
        have hclk := cl_lk x k l (i : Nat) M
        unfold testP at hd
        generalize hypS x.ts x.per = H at *
        obtain ⟨hh, he⟩ := H
        simp only at hd hhin
        refine vd_pure (hhy) ?_
        set_option smartUnfolding false in conv => whnf
        by_cases he0 : he = 0
        · subst he0
          rw [if_neg (by simp)] at hd
          have hhin := hhin rfl
          set_option smartUnfolding false in conv => whnf
          refine vd_pure (hpu hh) ?_
          generalize dUse x.ts M hh = U at *
          obtain ⟨us, ue⟩ := U
          simp only at hd
          set_option smartUnfolding false in conv => whnf
          refine ⟨_, quo_val _ _ (by omega), ?_⟩
          set_option smartUnfolding false in conv => whnf
          generalize hB : IntKind.i64.wrap (IntKind.i64.wrap (hh.tdiv x.per) * x.bud) = B at *
          by_cases hu : us > B
          · refine brt (decide_eq_true hu) (fun hc => ?_)
            (try rw [hc])
            set_option smartUnfolding false in conv => whnf
            subst hQ
            rw [hd, if_pos hu]
            rfl
          · rw [if_neg hu] at hd
            refine brf (decide_eq_false hu) (fun hc => ?_)
            (try rw [hc])
            set_option smartUnfolding false in conv => whnf
            have hcl : clL (lk x k l (i : Nat) M).cells = true := cells_cl hclk
            refine vc_frz [2] (i := 6) (v' := .fp (lk x k l (i : Nat) M).cells 0) rfl (.ptr' (by simp) rfl (.clean (l := (lk x k l (i : Nat) M).cells) hcl)) ?_
            refine vc_lit (B := 0) (d := 7) (l := [(4, .ptr 0 0), (5, .ptr 1 0), (6, .fp (lk x k l (i : Nat) M).cells 0), (7, .int .i64 hh), (10, .int .i64 (farN x.ts 0)), (67, .fz x.k (tks x.ts)), (68, .int .i64 (tks x.ts).length), (69, .int .i64 ((0 : Nat) : Int))]) (hk_two (.cells [.int .i64 0] true 0) (.cells [.int .i64 0] true 0)) id (by repeat' (first | exact trivial | refine renAt_sl rfl (by omega) ?_ | refine renAt_ptr rfl (by omega) ?_ | refine renAt_yield rfl (by omega) ?_ | refine renAt_cl rfl (by first | rfl | simp [clL, AV.cl, cl_ints, cl_tks, hcl]) ?_ | refine renAt_cl (inc_slot (by omega)) rfl ?_)) ⟨by omega, ⟨_, rfl, renB_cl rfl rfl⟩, by omega, ⟨_, rfl, renB_cl rfl rfl⟩, trivial⟩ (by intro b c hb hc h; exact h) (by intro b hb; omega) (by omega) ?_
            refine for_rowH 0 7 x.ts.length (fun _ => True) (fun j => [(4, .ptr 0 0), (5, .ptr 1 0), (6, .fp (lk x k l (i : Nat) M).cells 0), (7, .int .i64 hh), (10, .int .i64 (farN x.ts j)), (67, .fz x.k (tks x.ts)), (68, .int .i64 (tks x.ts).length), (69, .int .i64 ((j : Nat) : Int))]) (fun _ => ⟨2, .node (.node .nil (some (.cells [.int .i64 0] true 0)) .nil) (some (.cells [.int .i64 0] true 0)) .nil⟩) ?_ ?_ trivial
            · intro j hj _
              have hn := farN_next hj
              have hix := idx_tk (k := x.k) hj
              generalize x.ts[j] = t at *
              show vpC fs ms 0 false false _ (ek 7 [(4, .ptr 0 0), (5, .ptr 1 0), (6, .fp (lk x k l (i : Nat) M).cells 0), (7, .int .i64 hh), (10, .int .i64 (farN x.ts j)), (67, .fz x.k (tks x.ts)), (68, .int .i64 (tks x.ts).length), (69, .int .i64 ((j : Nat) : Int))]) _ _
              generalize farN x.ts j = f at *
              set_option smartUnfolding false in conv => whnf
              refine brt (by rw [len_tks]; simp; omega) (fun hc => ?_)
              (try rw [hc])
              set_option smartUnfolding false in conv => whnf
              refine ⟨_, hix, ?_⟩
              set_option smartUnfolding false in conv => whnf
              refine ⟨trivial, id, gc_lit (hk_two (.cells [.int .i64 0] true 0) (.cells [.int .i64 0] true 0)) id ⟨⟨_, rfl, .ptr (by omega)⟩, ⟨_, rfl, .ptr (by omega)⟩, ⟨_, rfl, .cl (by simp [AV.cl, hcl])⟩, ⟨_, rfl, .cl rfl⟩, ⟨_, congrArg (fun n => some (AV.int .i64 n)) hn.symm, .cl rfl⟩, ⟨_, rfl, .cl (by simp [AV.cl, cl_tks])⟩, ⟨_, rfl, .cl rfl⟩, ⟨_, inc_slot (by omega), .cl rfl⟩, trivial⟩ ⟨by omega, ⟨_, rfl, renB_cl rfl rfl⟩, by omega, ⟨_, rfl, renB_cl rfl rfl⟩, trivial⟩ (by intro b c hb hc h; exact h) (by intro b hb; omega) (by omega)⟩
            · intro _
              have hE := endS_in (x := x) hhin ⟨hfar.1, hfar.2.1⟩ ⟨hpi.1, hpi.2.1⟩
              have hend : endS x hh = ((endS x hh).toNat : Nat) := (Int.toNat_of_nonneg (by omega)).symm
              have hlt : (endS x hh).toNat < 1048576 := by omega
              have hes : endS x hh = sumW [hh, farN x.ts x.ts.length, x.per, x.per] := rfl
              generalize endS x hh = en at *
              generalize en.toNat = fin at *
              subst hend
              clear hfar hdl hE
              show vpC fs ms 0 false false _ (ek 7 [(4, .ptr 0 0), (5, .ptr 1 0), (6, .fp (lk x k l (i : Nat) M).cells 0), (7, .int .i64 hh), (10, .int .i64 (farN x.ts x.ts.length)), (67, .fz x.k (tks x.ts)), (68, .int .i64 (tks x.ts).length), (69, .int .i64 ((x.ts.length : Nat) : Int))]) _ _
              generalize farN x.ts x.ts.length = far at *
              set_option smartUnfolding false in conv => whnf
              refine brf (by rw [len_tks]; simp) (fun hc => ?_)
              (try rw [hc])
              set_option smartUnfolding false in conv => whnf
              refine vd_view (lsum_c 2 [hh, far, x.per, x.per] (by simp)) rfl (.cons (.row (s := 1) trivial rfl (by rfl) (size_ints _) (by simp [ints]) (Nat.le_refl _) (by omega) (fun _ => rfl) (fun _ => rfl) (cl_ints _)) .nil) ?_
              rw [← hes]
              set_option smartUnfolding false in conv => whnf
              refine vd_pure (hsl _) ?_
              set_option smartUnfolding false in conv => whnf
              refine ⟨winOk_of (by (set_option smartUnfolding false in conv => whnf); repeat' (first | exact trivial | (exact ⟨rfl, rfl, .inr ⟨_, _, rfl⟩⟩) | (refine ⟨rfl, rfl, .inl ⟨rfl, fun o ho => ?_⟩⟩; cases ho; first | rfl) | (exact ⟨rfl, .inr ⟨_, _, rfl⟩⟩) | (refine ⟨rfl, .inl ⟨rfl, fun i o hi ho => ?_⟩⟩; cases hi; cases ho; first | rfl) | (refine And.intro (fun _ => ?_) ?_ <;> set_option smartUnfolding false in conv => whnf) | (refine And.intro ?_ ?_ <;> set_option smartUnfolding false in conv => whnf))), ?_⟩
              set_option smartUnfolding false in conv => whnf
              have hF : (AV.func (.func f_local_look_slacks_1) [] [.fp [.int .i64 (fin : Nat)] 0, .fp (lk x k l (i : Nat) M).cells 0]).cl = true := by simp [AV.cl, clL, hcl]
              refine vc_lit (B := 0) (d := 7) (l := [(4, .ptr 0 0), (5, .ptr 1 0), (89, .func (.func f_local_look_slacks_1) [] [.fp [.int .i64 (fin : Nat)] 0, .fp (lk x k l (i : Nat) M).cells 0])]) (hk_two (.cells [.int .i64 0] true 0) (.cells [.int .i64 0] true 0)) id (by repeat' (first | exact trivial | refine renAt_sl rfl (by omega) ?_ | refine renAt_ptr rfl (by omega) ?_ | refine renAt_yield rfl (by omega) ?_ | refine renAt_cl rfl (by first | rfl | simp [clL, AV.cl, cl_ints, hcl]) ?_ | refine renAt_cl (inc_slot (by omega)) rfl ?_)) ⟨by omega, ⟨_, rfl, renB_cl rfl rfl⟩, by omega, ⟨_, rfl, renB_cl rfl rfl⟩, trivial⟩ (by intro b c hb hc h; exact h) (by intro b hb; omega) (by omega) ?_
              show VC fs ms 0 false (.rangeFunc (.t 89) [90, 91] lA lB) _ _ _
              refine vc_range rfl rfl ?_
              refine VD.mono (hlit fin hlt _ hF) fun v h2 h3 => ?_
              subst h3
              cases hfb : firstBad (badB x l (i : Nat) M) 1 fin with
              | none =>
                rw [hfb] at hd
                refine ⟨.normal, 0, rfl, by decide, by simp, ?_⟩
                set_option smartUnfolding false in conv => whnf
                subst hQ
                rw [hd]
                rfl
              | some t =>
                rw [hfb] at hd
                refine ⟨.ret, 2, rfl, by decide, by simp, ?_⟩
                set_option smartUnfolding false in conv => whnf
                subst hQ
                rw [hd]
                rfl
        · refine brt (by simpa using he0) (fun hc => ?_)
          (try rw [hc])
          set_option smartUnfolding false in conv => whnf
          refine ⟨winOk_of (by (set_option smartUnfolding false in conv => whnf); repeat' (first | exact trivial | (exact ⟨rfl, rfl, .inr ⟨_, _, rfl⟩⟩) | (refine ⟨rfl, rfl, .inl ⟨rfl, fun o ho => ?_⟩⟩; cases ho; first | rfl) | (exact ⟨rfl, .inr ⟨_, _, rfl⟩⟩) | (refine ⟨rfl, .inl ⟨rfl, fun i o hi ho => ?_⟩⟩; cases hi; cases ho; first | rfl) | (refine And.intro (fun _ => ?_) ?_ <;> set_option smartUnfolding false in conv => whnf) | (refine And.intro ?_ ?_ <;> set_option smartUnfolding false in conv => whnf))), ?_⟩
          set_option smartUnfolding false in conv => whnf
          subst hQ
          rw [hd, if_pos he0]
          rfl
  · refine vd_pure (lof_bad k l a hs h) ?_
    set_option smartUnfolding false in conv => whnf
    refine ⟨winOk_of (by (set_option smartUnfolding false in conv => whnf); repeat' (first | exact trivial | (exact ⟨rfl, rfl, .inr ⟨_, _, rfl⟩⟩) | (refine ⟨rfl, rfl, .inl ⟨rfl, fun o ho => ?_⟩⟩; cases ho; first | rfl) | (exact ⟨rfl, .inr ⟨_, _, rfl⟩⟩) | (refine ⟨rfl, .inl ⟨rfl, fun i o hi ho => ?_⟩⟩; cases hi; cases ho; first | rfl) | (refine And.intro (fun _ => ?_) ?_ <;> set_option smartUnfolding false in conv => whnf) | (refine And.intro ?_ ?_ <;> set_option smartUnfolding false in conv => whnf))), ?_⟩
    set_option smartUnfolding false in conv => whnf
    subst hQ
    rw [testS, if_pos h]
    rfl
end Ir
end Go.Proofs.Ytepdklcpagielaa
