/-
  Gate: what happens at the beginning of a tick, task by task. Gate: who runs in a tick, runs. Gate: what happens at the beginning of a tick. GateKeeps.
-/
import Derived.Test.YtecdcefacdodgaaVGkP
import Derived.Test.YtecdcefacdodgaaVJobC
import Derived.Test.YtecdcefacdodgaaVGatQ
set_option maxRecDepth 100000
set_option linter.unusedSimpArgs false
set_option linter.unusedVariables false
namespace Go.Proofs.Ytecdcefacdodgaa
open Go Ads
namespace Ir
open Edf

/-- The machine's record. -/
def rcs (K kw kl : Nat) (M : List Pt) (w : List Bool) (lt : List Int) (d : Nat) : List AV :=
  [.fz K (pts M), .nils, .fz kw (bls w), .sl 1 0 M.length M.length false, .sl 2 0 M.length M.length false, .sl 3 0 (4 * M.length) (4 * M.length) false, .sl 4 0 (4 * M.length) (4 * M.length) false, .int .i64 (d : Nat), .fz kl (ints lt)]
def sL (S : List (Int × Int)) : List Int := S.map (·.2)
def sE (S : List (Int × Int)) : List Int := S.map (·.1)
theorem sL_len (S : List (Int × Int)) : (sL S).length = S.length := by simp [sL]
theorem sE_len (S : List (Int × Int)) : (sE S).length = S.length := by simp [sE]
theorem sL_at {S : List (Int × Int)} {i : Nat} (h : i < S.length) : (ints (sL S))[i]? = some (.int .i64 (jL S i)) := by
  rw [jL_eq h, ints, List.getElem?_map, sL, List.getElem?_map, List.getElem?_eq_getElem h]
  rfl
theorem sE_at {S : List (Int × Int)} {i : Nat} (h : i < S.length) : (ints (sE S))[i]? = some (.int .i64 (jE S i)) := by
  rw [jE_eq h, ints, List.getElem?_map, sE, List.getElem?_map, List.getElem?_eq_getElem h]
  rfl
theorem sL_set {S : List (Int × Int)} {i : Nat} (h : i < S.length) (x : Int × Int) : Heap.splice (ints (sL S)) i [.int .i64 x.2] = ints (sL (S.set i x)) := by
  rw [ints_set (by rw [sL_len]; exact h), sL, sL, List.map_set]
theorem sE_set {S : List (Int × Int)} {i : Nat} (h : i < S.length) (x : Int × Int) : Heap.splice (ints (sE S)) i [.int .i64 x.1] = ints (sE (S.set i x)) := by
  rw [ints_set (by rw [sE_len]; exact h), sE, sE, List.map_set]

section
variable (K kw kl : Nat) (M : List Pt) (w : List Bool) (lt : List Int)
def RH (G : GS) : Heap := H8 (some (.cells (rcs K kw kl M w lt G.d) true 0)) (some (.cells (ints (sL G.s)) true 0)) (some (.cells (ints (sE G.s)) true 0)) (some (.cells (jc G.j) true 0)) (some (.cells (ints G.n) true 0)) none none none
def tkE (x : Pt) (u i q : Nat) : List (Nat × AV) := [(0, .ptr 0 0), (1, .int .i64 (u : Nat)), (5, .int .i64 (i : Nat)), (6, .fp (pt x).cells 0), (7, .int .i64 (q : Nat))]
end
theorem rc_ren {K kw kl : Nat} {M : List Pt} {w : List Bool} {lt : List Int} {d : Nat} : RenB id 8 (.cells (rcs K kw kl M w lt d) true 0) (.cells (rcs K kw kl M w lt d) true 0) := by
  refine .cells rfl fun a x y hx hy => ?_
  have hcl1 := cl_pts M
  have hcl2 := cl_bls w
  have hcl3 := cl_ints lt
  match a, hx, hy with
  | 0, hx, hy => cases hx; cases hy; exact .cl (by simp [AV.cl, hcl1])
  | 1, hx, hy => cases hx; cases hy; exact .cl rfl
  | 2, hx, hy => cases hx; cases hy; exact .cl (by simp [AV.cl, hcl2])
  | 3, hx, hy => cases hx; cases hy; exact .sl (by omega)
  | 4, hx, hy => cases hx; cases hy; exact .sl (by omega)
  | 5, hx, hy => cases hx; cases hy; exact .sl (by omega)
  | 6, hx, hy => cases hx; cases hy; exact .sl (by omega)
  | 7, hx, hy => cases hx; cases hy; exact .cl rfl
  | 8, hx, hy => cases hx; cases hy; exact .cl (by simp [AV.cl, hcl3])
theorem RH_blks {K kw kl : Nat} {M : List Pt} {w : List Bool} {lt : List Int} {G : GS} {h1 : Heap} (g0 : h1.get 0 = some (.cells (rcs K kw kl M w lt G.d) true 0)) (g1 : h1.get 1 = some (.cells (ints (sL G.s)) true 0)) (g2 : h1.get 2 = some (.cells (ints (sE G.s)) true 0)) (g3 : h1.get 3 = some (.cells (jc G.j) true 0)) (g4 : h1.get 4 = some (.cells (ints G.n) true 0)) :
    ∀ b x, pick8 (some (.cells (rcs K kw kl M w lt G.d) true 0)) (some (.cells (ints (sL G.s)) true 0)) (some (.cells (ints (sE G.s)) true 0)) (some (.cells (jc G.j) true 0)) (some (.cells (ints G.n) true 0)) none none none b = some x → ∃ y, h1.get (id b) = some y ∧ RenB id 8 x y :=
  all8 (one_blk ⟨_, g0, rc_ren⟩) (one_blk ⟨_, g1, renB_cl rfl (cl_ints _)⟩) (one_blk ⟨_, g2, renB_cl rfl (cl_ints _)⟩) (one_blk ⟨_, g3, renB_cl rfl (jc_cl _)⟩) (one_blk ⟨_, g4, renB_cl rfl (cl_ints _)⟩) no_blk no_blk no_blk
theorem ren_tk {K kw kl : Nat} {M : List Pt} {w : List Bool} {lt : List Int} {x : Pt} {u i q : Nat} {G : GS} {e1 : Env} {h1 : Heap} (h_0 : Tr.get e1 0 = some (.ptr 0 0)) (h_1 : Tr.get e1 1 = some (.int .i64 (u : Nat))) (h_5 : Tr.get e1 5 = some (.int .i64 (i : Nat))) (h_6 : Tr.get e1 6 = some (.fp (pt x).cells 0)) (h_7 : Tr.get e1 7 = some (.int .i64 (q : Nat)))
    (g0 : h1.get 0 = some (.cells (rcs K kw kl M w lt G.d) true 0)) (g1 : h1.get 1 = some (.cells (ints (sL G.s)) true 0)) (g2 : h1.get 2 = some (.cells (ints (sE G.s)) true 0)) (g3 : h1.get 3 = some (.cells (jc G.j) true 0)) (g4 : h1.get 4 = some (.cells (ints G.n) true 0)) : GC 8 id e1 h1 (ek 5 (tkE x u i q)) (RH K kw kl M w lt G) :=
  gc8 id ⟨⟨_, h_0, .ptr (by omega)⟩, ⟨_, h_1, .cl rfl⟩, ⟨_, h_5, .cl rfl⟩, ⟨_, h_6, .cl (cl_ptf x)⟩, ⟨_, h_7, .cl rfl⟩, trivial⟩ (RH_blks g0 g1 g2 g3 g4) (by decide) (by intro b hb; rfl) (by omega)

theorem tsk_in {Q : AX → Env → Heap → Prop} (K kw kl : Nat) (M : List Pt) (w : List Bool) (lt : List Int) (x : Pt) (u i : Nat) (G : GS) (hi : i < M.length) (hx : pA M i = x) (hM4 : M.length ≤ 4) (ho : ∀ t, t ∈ x.ts → OkT t) (hok : GOk M.length G) (hu : u < 1000) (hd : G.d ≤ 100000) (hm4 : x.ts.length ≤ 4) (hlt : lt.length < 2 ^ 62)
    (hmiss : ∀ q, q < x.ts.length → 0 < jL G.j (4 * i + q) → ((u : Nat) : Int) < jE G.j (4 * i + q))
    (hK : VC fs ms 8 false (.loop L_escapementlaw12_run_begins_1) (ek 5 (tkE x u i x.ts.length)) (RH K kw kl M w lt (tskN M lt u i G x.ts.length)) Q) :
    VC fs ms 8 false (.loop L_escapementlaw12_run_begins_1) (ek 5 (tkE x u i 0)) (RH K kw kl M w lt G) Q := by
  refine for_rowL 8 5 x.ts.length (fun _ => True) (tkE x u i) (fun q => RH K kw kl M w lt (tskN M lt u i G q)) ?_ (fun _ => hK) trivial
  clear hK
  intro q hq _
  have hokR := tskN_ok (M := M) (lt := lt) (u := u) (i := i) hok q
  obtain ⟨r1, r2, r3, r4⟩ := tskN_get (M := M) (lt := lt) (u := u) hok hi i q (by omega) q (by omega)
  rw [if_neg (by omega)] at r1 r2
  have hm := hmiss q hq
  rw [← r1, ← r2] at hm
  have hdR : (tskN M lt u i G q).d ≤ G.d + q := by
    clear hm r1 r2 r3 r4 hokR hmiss
    induction q with
    | zero => exact Nat.le_refl _
    | succ q ih =>
      have := ih (by omega)
      rw [tskN, tskOne]
      split
      · show _ + 1 ≤ _; omega
      · omega
  have hnx : tskN M lt u i G (q + 1) = tskOne M lt u i (tskN M lt u i G q) q := rfl
  have hto := ho _ (List.getElem_mem hq)
  have htk := tk_get hq
  have hix := idx_tk (k := x.k) hq
  have hex := extra_in (md := 20) (by omega) lt (tskN M lt u i G q).d
  have hexc := extra_cons (md := 20) (lt := lt) (d := (tskN M lt u i G q).d)
  clear r1 r2 r3 r4
  generalize tskN M lt u i G (q + 1) = R' at *
  generalize tskN M lt u i G q = R at *
  obtain ⟨S, J, n, d⟩ := R
  simp only at hm hdR hex hexc
  obtain ⟨o1, o2, o3⟩ := hokR
  simp only at o1 o2 o3
  have le := jc_e (J := J) (i := 4 * i + q) (by omega)
  have ll := jc_l (J := J) (i := 4 * i + q) (by omega)
  have ln := ints_at (n := n) (i := 4 * i + q) (by omega)
  have hlenJ := jc_len J
  have htD : tD x.ts q = x.ts[q].d := by rw [tD, htk]
  have htC : tC x.ts q = x.ts[q].w := by rw [tC, htk]
  have htP : tP x.ts q = x.ts[q].p := by rw [tP, htk]
  unfold tskOne at hnx
  rw [hx, htD, htC, htP] at hnx
  simp only at hnx
  generalize x.ts[q] = t at *
  unfold OkT at hto
  generalize hex0 : extra 20 lt d = ex at *
  have a1 : IntKind.i64.wrap (4 * ((i : Nat) : Int)) = ((4 * i : Nat) : Int) := by rw [IntWalk.i64_in _ (by omega)]; omega
  have a2 : IntKind.i64.wrap (((4 * i : Nat) : Int) + ((q : Nat) : Int)) = ((4 * i + q : Nat) : Int) := by rw [IntWalk.i64_in _ (by omega)]; omega
  obtain ⟨U, hU⟩ : ∃ U : Int, ((u : Nat) : Int) = U := ⟨_, rfl⟩
  have b1 : IntKind.i64.wrap (U + t.d) = U + t.d := IntWalk.i64_in _ (by omega)
  have b2 : IntKind.i64.wrap (U + t.p) = U + t.p := IntWalk.i64_in _ (by omega)
  have b3 : IntKind.i64.wrap (U + t.p + ex) = U + t.p + ex := IntWalk.i64_in _ (by omega)
  have hJ1 := jc_set J (4 * i + q) (by omega) (U + t.d, t.w)
  have hN1 := ints_set (n := n) (i := 4 * i + q) (by omega) (U + t.p)
  have hN2 : (Heap.splice (ints n) (4 * i + q) [.int .i64 (U + t.p)])[4 * i + q]? = some (.int .i64 (U + t.p)) := by
    rw [hN1, ints_at (by simp; omega), nX_set (by omega), if_pos rfl]
  have hN3 : Heap.splice (Heap.splice (ints n) (4 * i + q) [.int .i64 (U + t.p)]) (4 * i + q) [.int .i64 (U + t.p + ex)] = ints (n.set (4 * i + q) (U + t.p + ex)) := by
    rw [hN1, ints_set (by simp; omega), List.set_set]
  rw [hU] at hnx hm
  have hend : ∀ (e1 : Env) (h1 : Heap), Tr.get e1 0 = some (.ptr 0 0) → Tr.get e1 1 = some (.int .i64 U) → Tr.get e1 5 = some (.int .i64 (i : Nat)) → Tr.get e1 6 = some (.fp (pt x).cells 0) → Tr.get e1 7 = some (.int .i64 ((q + 1 : Nat) : Int)) →
      h1.get 0 = some (.cells (rcs K kw kl M w lt R'.d) true 0) → h1.get 1 = some (.cells (ints (sL R'.s)) true 0) → h1.get 2 = some (.cells (ints (sE R'.s)) true 0) → h1.get 3 = some (.cells (jc R'.j) true 0) → h1.get 4 = some (.cells (ints R'.n) true 0) → True ∧ ∃ p, GC 8 p e1 h1 (ek 5 (tkE x u i (q + 1))) (RH K kw kl M w lt R') := by
    intro e1 h1 h_0 h_1 h_5 h_6 h_7 g0 g1 g2 g3 g4
    exact ⟨trivial, id, ren_tk h_0 (by rw [hU]; exact h_1) h_5 h_6 h_7 g0 g1 g2 g3 g4⟩
  have hrc : some (Blk.cells (Heap.splice [.fz K (pts M), .nils, .fz kw (bls w), .sl 1 0 M.length M.length false, .sl 2 0 M.length M.length false, .sl 3 0 (4 * M.length) (4 * M.length) false, .sl 4 0 (4 * M.length) (4 * M.length) false, .int .i64 (d : Nat), .fz kl (ints lt)] 7 [.int .i64 (IntKind.i64.wrap (((d : Nat) : Int) + 1))]) true 0) = some (Blk.cells (rcs K kw kl M w lt (d + 1)) true 0) := by
    rw [inc_val (by omega)]
    rfl
  have hE : tkE x u i q = [(0, .ptr 0 0), (1, .int .i64 U), (5, .int .i64 (i : Nat)), (6, .fp (pt x).cells 0), (7, .int .i64 (q : Nat))] := by rw [← hU]; rfl
  rw [hE]
  show vpC fs ms 8 false false _ (ek 5 [(0, .ptr 0 0), (1, .int .i64 U), (5, .int .i64 (i : Nat)), (6, .fp (pt x).cells 0), (7, .int .i64 (q : Nat))]) ⟨8, .node (.node (.node (.node .nil none .nil) (some (.cells (jc J) true 0)) .nil) (some (.cells (ints (sL S)) true 0)) (.node .nil none .nil)) (some (.cells [.fz K (pts M), .nils, .fz kw (bls w), .sl 1 0 M.length M.length false, .sl 2 0 M.length M.length false, .sl 3 0 (4 * M.length) (4 * M.length) false, .sl 4 0 (4 * M.length) (4 * M.length) false, .int .i64 (d : Nat), .fz kl (ints lt)] true 0)) (.node (.node .nil (some (.cells (ints n) true 0)) .nil) (some (.cells (ints (sE S)) true 0)) (.node .nil none .nil))⟩ _
  set_option smartUnfolding false in conv => whnf
  refine brt (by rw [len_tks]; simp; omega) (fun hc => ?_)
  (try rw [hc])
  set_option smartUnfolding false in conv => whnf
  rw [a1]
  set_option smartUnfolding false in conv => whnf
  rw [a2]
  set_option smartUnfolding false in conv => whnf
  refine ⟨_, idx_slS2 (by omega), ?_⟩
  set_option smartUnfolding false in conv => whnf
  refine ⟨_, rfl, ?_⟩
  set_option smartUnfolding false in conv => whnf
  refine op_some (ld1 rfl ll) ?_
  set_option smartUnfolding false in conv => whnf
  by_cases hl : 0 < jL J (4 * i + q)
  · refine brt (by simpa using hl) (fun hc => ?_)
    (try rw [hc])
    set_option smartUnfolding false in conv => whnf
    refine ⟨_, idx_slS2 (by omega), ?_⟩
    set_option smartUnfolding false in conv => whnf
    refine ⟨_, rfl, ?_⟩
    set_option smartUnfolding false in conv => whnf
    refine op_some (ld1 rfl le) ?_
    set_option smartUnfolding false in conv => whnf
    have hm := hm hl
    refine brf (by simp; omega) (fun hc => ?_)
    (try rw [hc])
    set_option smartUnfolding false in conv => whnf
    refine ⟨_, idx_sl (by omega), ?_⟩
    set_option smartUnfolding false in conv => whnf
    refine op_some (ld1 rfl ln) ?_
    set_option smartUnfolding false in conv => whnf
    by_cases hr : nX n (4 * i + q) ≤ U
    · refine brt (by simpa using hr) (fun hc => ?_)
      (try rw [hc])
      set_option smartUnfolding false in conv => whnf
      rw [if_pos hr] at hnx
      refine ⟨_, hix, ?_⟩
      set_option smartUnfolding false in conv => whnf
      rw [b1]
      set_option smartUnfolding false in conv => whnf
      refine ⟨_, hix, ?_⟩
      set_option smartUnfolding false in conv => whnf
      refine ⟨_, idx_slS2 (by omega), ?_⟩
      set_option smartUnfolding false in conv => whnf
      refine brT (by show (Nat.ble ((4 * i + q) * 2 + 2) (jc J).length && true) = true; rw [hlenJ, Bool.and_true]; exact Nat.ble_eq_true_of_le (by omega)) ?_
      set_option smartUnfolding false in conv => whnf
      refine ⟨_, hix, ?_⟩
      set_option smartUnfolding false in conv => whnf
      rw [b2]
      set_option smartUnfolding false in conv => whnf
      refine ⟨_, idx_sl (by omega), ?_⟩
      set_option smartUnfolding false in conv => whnf
      refine brT (by show (Nat.ble (4 * i + q + 1) (ints n).length && true) = true; rw [len_ints, Bool.and_true]; exact Nat.ble_eq_true_of_le (by omega)) ?_
      set_option smartUnfolding false in conv => whnf
      cases hlt0 : lt with
      | nil =>
        subst hlt0
        have he0 : ex = 0 := by rw [← hex0]; rfl
        rw [he0, Int.add_zero] at hnx
        set_option smartUnfolding false in conv => whnf
        exact hend _ _ rfl rfl rfl rfl (inc_slot (by omega)) (by rw [hnx]; exact hrc) (by rw [hnx]; rfl) (by rw [hnx]; rfl) (by rw [hnx]; exact congrArg (fun c => some (Blk.cells c true 0)) hJ1) (by rw [hnx]; exact congrArg (fun c => some (Blk.cells c true 0)) hN1)
      | cons a rr =>
        have hne : lt ≠ [] := by rw [hlt0]; exact List.cons_ne_nil _ _
        have hL1 : 1 ≤ lt.length := by rw [hlt0]; simp
        rw [← hlt0]
        have hexc := hexc hne
        have hkl : d % lt.length < lt.length := Nat.mod_lt _ (by omega)
        rw [List.getD_eq_getElem?_getD, List.getElem?_eq_getElem hkl] at hexc
        have hxl := idx_int (l := lt) (j := d % lt.length) (k := kl) hkl
        have hbr := bring_c lt[d % lt.length] 20 (by omega) (by omega)
        rw [show bring lt[d % lt.length] 20 = ex from hexc.symm] at hbr
        refine brt (by rw [len_ints]; simp; omega) (fun hc => ?_)
        (try rw [hc])
        set_option smartUnfolding false in conv => whnf
        refine ⟨_, idx_sl (by omega), ?_⟩
        set_option smartUnfolding false in conv => whnf
        refine op_some (ld1 rfl hN2) ?_
        set_option smartUnfolding false in conv => whnf
        refine ⟨_, rem_val _ _ (by rw [len_ints]; omega), ?_⟩
        set_option smartUnfolding false in conv => whnf
        rw [len_ints]
        refine ⟨_, hxl, ?_⟩
        set_option smartUnfolding false in conv => whnf
        refine vd_pure hbr ?_
        set_option smartUnfolding false in conv => whnf
        rw [b3]
        set_option smartUnfolding false in conv => whnf
        refine ⟨_, idx_sl (by omega), ?_⟩
        set_option smartUnfolding false in conv => whnf
        refine brT (by show (Nat.ble (4 * i + q + 1) (Heap.splice (ints n) (4 * i + q) [.int .i64 (U + t.p)]).length && true) = true; rw [hN1, len_ints, List.length_set, Bool.and_true]; exact Nat.ble_eq_true_of_le (by omega)) ?_
        set_option smartUnfolding false in conv => whnf
        refine ⟨winOk_of (by (set_option smartUnfolding false in conv => whnf); repeat' (first | exact trivial | (exact ⟨rfl, rfl, .inr ⟨_, _, rfl⟩⟩) | (refine ⟨rfl, rfl, .inl ⟨rfl, fun o ho => ?_⟩⟩; cases ho; first | rfl | exact ld1 rfl hN2) | (exact ⟨rfl, .inr ⟨_, _, rfl⟩⟩) | (refine ⟨rfl, .inl ⟨rfl, fun i o hi ho => ?_⟩⟩; cases hi; cases ho; first | rfl | exact ld1 rfl hN2) | (refine And.intro (fun _ => ?_) ?_ <;> set_option smartUnfolding false in conv => whnf) | (refine And.intro ?_ ?_ <;> set_option smartUnfolding false in conv => whnf))), ?_⟩
        set_option smartUnfolding false in conv => whnf
        exact hend _ _ rfl rfl rfl rfl (inc_slot (by omega)) (by rw [hnx]; exact hrc) (by rw [hnx]; rfl) (by rw [hnx]; rfl) (by rw [hnx]; exact congrArg (fun c => some (Blk.cells c true 0)) hJ1) (by rw [hnx]; exact congrArg (fun c => some (Blk.cells c true 0)) hN3)
    · refine brf (by simpa using hr) (fun hc => ?_)
      (try rw [hc])
      set_option smartUnfolding false in conv => whnf
      rw [if_neg hr] at hnx
      refine hend _ _ rfl rfl rfl rfl (inc_slot (by omega)) (by rw [hnx]; rfl) (by rw [hnx]; rfl) (by rw [hnx]; rfl) (by rw [hnx]; rfl) (by rw [hnx]; rfl)
  · refine brf (by simpa using hl) (fun hc => ?_)
    (try rw [hc])
    set_option smartUnfolding false in conv => whnf
    refine ⟨_, idx_sl (by omega), ?_⟩
    set_option smartUnfolding false in conv => whnf
    refine op_some (ld1 rfl ln) ?_
    set_option smartUnfolding false in conv => whnf
    by_cases hr : nX n (4 * i + q) ≤ U
    · refine brt (by simpa using hr) (fun hc => ?_)
      (try rw [hc])
      set_option smartUnfolding false in conv => whnf
      rw [if_pos hr] at hnx
      refine ⟨_, hix, ?_⟩
      set_option smartUnfolding false in conv => whnf
      rw [b1]
      set_option smartUnfolding false in conv => whnf
      refine ⟨_, hix, ?_⟩
      set_option smartUnfolding false in conv => whnf
      refine ⟨_, idx_slS2 (by omega), ?_⟩
      set_option smartUnfolding false in conv => whnf
      refine brT (by show (Nat.ble ((4 * i + q) * 2 + 2) (jc J).length && true) = true; rw [hlenJ, Bool.and_true]; exact Nat.ble_eq_true_of_le (by omega)) ?_
      set_option smartUnfolding false in conv => whnf
      refine ⟨_, hix, ?_⟩
      set_option smartUnfolding false in conv => whnf
      rw [b2]
      set_option smartUnfolding false in conv => whnf
      refine ⟨_, idx_sl (by omega), ?_⟩
      set_option smartUnfolding false in conv => whnf
      refine brT (by show (Nat.ble (4 * i + q + 1) (ints n).length && true) = true; rw [len_ints, Bool.and_true]; exact Nat.ble_eq_true_of_le (by omega)) ?_
      set_option smartUnfolding false in conv => whnf
      cases hlt0 : lt with
      | nil =>
        subst hlt0
        have he0 : ex = 0 := by rw [← hex0]; rfl
        rw [he0, Int.add_zero] at hnx
        set_option smartUnfolding false in conv => whnf
        exact hend _ _ rfl rfl rfl rfl (inc_slot (by omega)) (by rw [hnx]; exact hrc) (by rw [hnx]; rfl) (by rw [hnx]; rfl) (by rw [hnx]; exact congrArg (fun c => some (Blk.cells c true 0)) hJ1) (by rw [hnx]; exact congrArg (fun c => some (Blk.cells c true 0)) hN1)
      | cons a rr =>
        have hne : lt ≠ [] := by rw [hlt0]; exact List.cons_ne_nil _ _
        have hL1 : 1 ≤ lt.length := by rw [hlt0]; simp
        rw [← hlt0]
        have hexc := hexc hne
        have hkl : d % lt.length < lt.length := Nat.mod_lt _ (by omega)
        rw [List.getD_eq_getElem?_getD, List.getElem?_eq_getElem hkl] at hexc
        have hxl := idx_int (l := lt) (j := d % lt.length) (k := kl) hkl
        have hbr := bring_c lt[d % lt.length] 20 (by omega) (by omega)
        rw [show bring lt[d % lt.length] 20 = ex from hexc.symm] at hbr
        refine brt (by rw [len_ints]; simp; omega) (fun hc => ?_)
        (try rw [hc])
        set_option smartUnfolding false in conv => whnf
        refine ⟨_, idx_sl (by omega), ?_⟩
        set_option smartUnfolding false in conv => whnf
        refine op_some (ld1 rfl hN2) ?_
        set_option smartUnfolding false in conv => whnf
        refine ⟨_, rem_val _ _ (by rw [len_ints]; omega), ?_⟩
        set_option smartUnfolding false in conv => whnf
        rw [len_ints]
        refine ⟨_, hxl, ?_⟩
        set_option smartUnfolding false in conv => whnf
        refine vd_pure hbr ?_
        set_option smartUnfolding false in conv => whnf
        rw [b3]
        set_option smartUnfolding false in conv => whnf
        refine ⟨_, idx_sl (by omega), ?_⟩
        set_option smartUnfolding false in conv => whnf
        refine brT (by show (Nat.ble (4 * i + q + 1) (Heap.splice (ints n) (4 * i + q) [.int .i64 (U + t.p)]).length && true) = true; rw [hN1, len_ints, List.length_set, Bool.and_true]; exact Nat.ble_eq_true_of_le (by omega)) ?_
        set_option smartUnfolding false in conv => whnf
        refine ⟨winOk_of (by (set_option smartUnfolding false in conv => whnf); repeat' (first | exact trivial | (exact ⟨rfl, rfl, .inr ⟨_, _, rfl⟩⟩) | (refine ⟨rfl, rfl, .inl ⟨rfl, fun o ho => ?_⟩⟩; cases ho; first | rfl | exact ld1 rfl hN2) | (exact ⟨rfl, .inr ⟨_, _, rfl⟩⟩) | (refine ⟨rfl, .inl ⟨rfl, fun i o hi ho => ?_⟩⟩; cases hi; cases ho; first | rfl | exact ld1 rfl hN2) | (refine And.intro (fun _ => ?_) ?_ <;> set_option smartUnfolding false in conv => whnf) | (refine And.intro ?_ ?_ <;> set_option smartUnfolding false in conv => whnf))), ?_⟩
        set_option smartUnfolding false in conv => whnf
        exact hend _ _ rfl rfl rfl rfl (inc_slot (by omega)) (by rw [hnx]; exact hrc) (by rw [hnx]; rfl) (by rw [hnx]; rfl) (by rw [hnx]; exact congrArg (fun c => some (Blk.cells c true 0)) hJ1) (by rw [hnx]; exact congrArg (fun c => some (Blk.cells c true 0)) hN3)
    · refine brf (by simpa using hr) (fun hc => ?_)
      (try rw [hc])
      set_option smartUnfolding false in conv => whnf
      rw [if_neg hr] at hnx
      refine hend _ _ rfl rfl rfl rfl (inc_slot (by omega)) (by rw [hnx]; rfl) (by rw [hnx]; rfl) (by rw [hnx]; rfl) (by rw [hnx]; rfl) (by rw [hnx]; rfl)
end Ir
end Go.Proofs.Ytecdcefacdodgaa
set_option maxRecDepth 100000
set_option linter.unusedSimpArgs false
set_option linter.unusedVariables false
namespace Go.Proofs.Ytecdcefacdodgaa
open Go Ads
namespace Ir
open Edf

def goA (S : List (Int × Int)) (i : Nat) : List (Nat × AV) := [(0, .ptr 0 0), (2, .int .i64 (pickN S i)), (3, .int .i64 (i : Nat))]
def goB (J : List (Int × Int)) (f q : Nat) : List (Nat × AV) := [(0, .ptr 0 0), (2, .int .i64 (f : Nat)), (4, .int .i64 (pickO J (4 * f) q)), (5, .int .i64 ((4 * f + q : Nat) : Int))]
theorem ren_goA {K kw kl : Nat} {M : List Pt} {w : List Bool} {lt : List Int} {i : Nat} {G : GS} {S : List (Int × Int)} {e1 : Env} {h1 : Heap} (h_0 : Tr.get e1 0 = some (.ptr 0 0)) (h_2 : Tr.get e1 2 = some (.int .i64 (pickN S i))) (h_3 : Tr.get e1 3 = some (.int .i64 (i : Nat)))
    (g0 : h1.get 0 = some (.cells (rcs K kw kl M w lt G.d) true 0)) (g1 : h1.get 1 = some (.cells (ints (sL G.s)) true 0)) (g2 : h1.get 2 = some (.cells (ints (sE G.s)) true 0)) (g3 : h1.get 3 = some (.cells (jc G.j) true 0)) (g4 : h1.get 4 = some (.cells (ints G.n) true 0)) : GC 8 id e1 h1 (ek 5 (goA S i)) (RH K kw kl M w lt G) :=
  gc8 id ⟨⟨_, h_0, .ptr (by omega)⟩, ⟨_, h_2, .cl rfl⟩, ⟨_, h_3, .cl rfl⟩, trivial⟩ (RH_blks g0 g1 g2 g3 g4) (by decide) (by intro b hb; rfl) (by omega)
theorem ren_goB {K kw kl : Nat} {M : List Pt} {w : List Bool} {lt : List Int} {f q : Nat} {G : GS} {J : List (Int × Int)} {e1 : Env} {h1 : Heap} (h_0 : Tr.get e1 0 = some (.ptr 0 0)) (h_2 : Tr.get e1 2 = some (.int .i64 (f : Nat))) (h_4 : Tr.get e1 4 = some (.int .i64 (pickO J (4 * f) q))) (h_5 : Tr.get e1 5 = some (.int .i64 ((4 * f + q : Nat) : Int)))
    (g0 : h1.get 0 = some (.cells (rcs K kw kl M w lt G.d) true 0)) (g1 : h1.get 1 = some (.cells (ints (sL G.s)) true 0)) (g2 : h1.get 2 = some (.cells (ints (sE G.s)) true 0)) (g3 : h1.get 3 = some (.cells (jc G.j) true 0)) (g4 : h1.get 4 = some (.cells (ints G.n) true 0)) : GC 8 id e1 h1 (ek 5 (goB J f q)) (RH K kw kl M w lt G) :=
  gc8 id ⟨⟨_, h_0, .ptr (by omega)⟩, ⟨_, h_2, .cl rfl⟩, ⟨_, h_4, .cl rfl⟩, ⟨_, h_5, .cl rfl⟩, trivial⟩ (RH_blks g0 g1 g2 g3 g4) (by decide) (by intro b hb; rfl) (by omega)

theorem set_same2 {α : Type} {l : List α} {o : Nat} {x : α} (h : l[o]? = some x) : l.set o x = l := by
  refine List.ext_getElem? fun i => ?_
  rw [List.getElem?_set]
  split
  · rename_i he
    subst he
    rw [h]
    have := (List.getElem?_eq_some_iff.1 h).1
    simp [this]
  · rfl

theorem goes_v (K kw kl : Nat) (M : List Pt) (w : List Bool) (lt : List Int) (G : GS) (hok : GOk M.length G) (hM4 : M.length ≤ 4) (hs64 : ∀ i, i < M.length → jL G.s i ≤ 1000) (hj64 : ∀ i, i < 4 * M.length → jL G.j i ≤ 1000) :
    VD fs ms f_escapementlaw12_run_goes [.ptr 0 0] (RH K kw kl M w lt G) (fun v h => v = .tup [] ∧ h = RH K kw kl M w lt (goeS M G)) := by
  refine vd_start (af := C_escapementlaw12_run_goes) false rfl (Nat.le_of_ble_eq_true rfl) ?_
  generalize hQ : (fun (v : AV) (h : Heap) => v = .tup [] ∧ h = RH K kw kl M w lt (goeS M G)) = Q
  have hlast : ∀ (LF EN JC : List AV), LF = ints (sL (goeS M G).s) → EN = ints (sE (goeS M G).s) → JC = jc (goeS M G).j → Q (.tup []) ⟨8, .node (.node (.node (.node .nil none .nil) (some (.cells JC true 0)) .nil) (some (.cells LF true 0)) (.node .nil none .nil)) (some (.cells (rcs K kw kl M w lt G.d) true 0)) (.node (.node .nil (some (.cells (ints G.n) true 0)) .nil) (some (.cells EN true 0)) (.node .nil none .nil))⟩ := by
    intro LF EN JC h1 h2 h3
    subst hQ h1 h2 h3
    refine ⟨rfl, ?_⟩
    have hn : (goeS M G).n = G.n ∧ (goeS M G).d = G.d := by
      unfold goeS
      split <;> exact ⟨rfl, rfl⟩
    rw [RH, hn.1, hn.2]
  clear hQ
  obtain ⟨S, J, n, d⟩ := G
  obtain ⟨o1, o2, o3⟩ := hok
  simp only at o1 o2 o3 hs64 hj64
  have hgo : goeS M ⟨S, J, n, d⟩ = if 0 ≤ pickN S M.length then ⟨lower S (pickN S M.length), lower J (pickO J (4 * (pickN S M.length).toNat) 4), n, d⟩ else ⟨S, J, n, d⟩ := rfl
  have hpk := pick_is S M.length
  show startF _ _ fun e => vpC fs ms 8 false false _ e ⟨8, .node (.node (.node (.node .nil none .nil) (some (.cells (jc J) true 0)) .nil) (some (.cells (ints (sL S)) true 0)) (.node .nil none .nil)) (some (.cells [.fz K (pts M), .nils, .fz kw (bls w), .sl 1 0 M.length M.length false, .sl 2 0 M.length M.length false, .sl 3 0 (4 * M.length) (4 * M.length) false, .sl 4 0 (4 * M.length) (4 * M.length) false, .int .i64 (d : Nat), .fz kl (ints lt)] true 0)) (.node (.node .nil (some (.cells (ints n) true 0)) .nil) (some (.cells (ints (sE S)) true 0)) (.node .nil none .nil))⟩ _
  set_option smartUnfolding false in conv => whnf
  refine vc_gc (ren_goA (K := K) (kw := kw) (kl := kl) (M := M) (w := w) (lt := lt) (G := ⟨S, J, n, d⟩) (S := S) (i := 0) rfl rfl rfl rfl rfl rfl rfl rfl) ?_
  refine for_rowL 8 5 M.length (fun _ => True) (goA S) (fun _ => RH K kw kl M w lt ⟨S, J, n, d⟩) (fun i hi _ => ?_) (fun _ => ?_) trivial
  · have ll := sL_at (S := S) (i := i) (by omega)
    have le := sE_at (S := S) (i := i) (by omega)
    have hpi := pick_is S i
    have hnx : pickN S (i + 1) = if 0 < jL S i ∧ (pickN S i < 0 ∨ jE S i < jE S (pickN S i).toNat) then ((i : Nat) : Int) else pickN S i := rfl
    have hkE : ∀ k, k < S.length → (ints (sE S))[k]? = some (.int .i64 (jE S k)) := fun k hk => sE_at hk
    have hend : ∀ (e1 : Env) (h1 : Heap), Tr.get e1 0 = some (.ptr 0 0) → Tr.get e1 2 = some (.int .i64 (pickN S (i + 1))) → Tr.get e1 3 = some (.int .i64 ((i + 1 : Nat) : Int)) → h1.get 0 = some (.cells (rcs K kw kl M w lt d) true 0) → h1.get 1 = some (.cells (ints (sL S)) true 0) → h1.get 2 = some (.cells (ints (sE S)) true 0) → h1.get 3 = some (.cells (jc J) true 0) → h1.get 4 = some (.cells (ints n) true 0) →
        True ∧ ∃ p, GC 8 p e1 h1 (ek 5 (goA S (i + 1))) (RH K kw kl M w lt ⟨S, J, n, d⟩) := fun e1 h1 h_0 h_2 h_3 g0 g1 g2 g3 g4 => ⟨trivial, id, ren_goA h_0 h_2 h_3 g0 g1 g2 g3 g4⟩
    show vpC fs ms 8 false false _ (ek 5 [(0, .ptr 0 0), (2, .int .i64 (pickN S i)), (3, .int .i64 (i : Nat))]) ⟨8, .node (.node (.node (.node .nil none .nil) (some (.cells (jc J) true 0)) .nil) (some (.cells (ints (sL S)) true 0)) (.node .nil none .nil)) (some (.cells [.fz K (pts M), .nils, .fz kw (bls w), .sl 1 0 M.length M.length false, .sl 2 0 M.length M.length false, .sl 3 0 (4 * M.length) (4 * M.length) false, .sl 4 0 (4 * M.length) (4 * M.length) false, .int .i64 (d : Nat), .fz kl (ints lt)] true 0)) (.node (.node .nil (some (.cells (ints n) true 0)) .nil) (some (.cells (ints (sE S)) true 0)) (.node .nil none .nil))⟩ _
    generalize pickN S i = pk at *
    set_option smartUnfolding false in conv => whnf
    refine brt (by simp; omega) (fun hc => ?_)
    (try rw [hc])
    set_option smartUnfolding false in conv => whnf
    refine ⟨_, idx_sl (by omega), ?_⟩
    set_option smartUnfolding false in conv => whnf
    refine op_some (ld1 rfl ll) ?_
    set_option smartUnfolding false in conv => whnf
    by_cases hl : 0 < jL S i
    · refine brt (by simpa using hl) (fun hc => ?_)
      (try rw [hc])
      set_option smartUnfolding false in conv => whnf
      rcases hpi with ⟨h1, -⟩ | ⟨k, h1, h2, -⟩
      · refine brt (by simpa using h1) (fun hc => ?_)
        (try rw [hc])
        set_option smartUnfolding false in conv => whnf
        rw [if_pos ⟨hl, .inl h1⟩] at hnx
        exact hend _ _ rfl (by rw [hnx]; rfl) (inc_slot (by omega)) rfl rfl rfl rfl rfl
      · subst h1
        refine ⟨_, idx_sl (by omega), ?_⟩
        set_option smartUnfolding false in conv => whnf
        refine op_some (ld1 rfl le) ?_
        set_option smartUnfolding false in conv => whnf
        refine ⟨_, idx_sl (by omega), ?_⟩
        set_option smartUnfolding false in conv => whnf
        refine op_some (ld1 rfl (hkE k (by omega))) ?_
        set_option smartUnfolding false in conv => whnf
        rw [Int.toNat_natCast] at hnx
        by_cases hlt : jE S i < jE S k
        · refine brt (by simpa using hlt) (fun hc => ?_)
          (try rw [hc])
          set_option smartUnfolding false in conv => whnf
          rw [if_pos ⟨hl, .inr hlt⟩] at hnx
          exact hend _ _ rfl (by rw [hnx]; rfl) (inc_slot (by omega)) rfl rfl rfl rfl rfl
        · refine brf (by simpa using hlt) (fun hc => ?_)
          (try rw [hc])
          set_option smartUnfolding false in conv => whnf
          rw [if_neg (fun h => h.2.elim (fun h => by omega) hlt)] at hnx
          exact hend _ _ rfl (by rw [hnx]; rfl) (inc_slot (by omega)) rfl rfl rfl rfl rfl
    · refine brf (by simpa using hl) (fun hc => ?_)
      (try rw [hc])
      set_option smartUnfolding false in conv => whnf
      rw [if_neg (fun h => hl h.1)] at hnx
      exact hend _ _ rfl (by rw [hnx]; rfl) (inc_slot (by omega)) rfl rfl rfl rfl rfl
  · refine vc_loop (z := false) ?_
    show vpC fs ms 8 false false _ (ek 5 [(0, .ptr 0 0), (2, .int .i64 (pickN S M.length)), (3, .int .i64 (M.length : Nat))]) ⟨8, .node (.node (.node (.node .nil none .nil) (some (.cells (jc J) true 0)) .nil) (some (.cells (ints (sL S)) true 0)) (.node .nil none .nil)) (some (.cells [.fz K (pts M), .nils, .fz kw (bls w), .sl 1 0 M.length M.length false, .sl 2 0 M.length M.length false, .sl 3 0 (4 * M.length) (4 * M.length) false, .sl 4 0 (4 * M.length) (4 * M.length) false, .int .i64 (d : Nat), .fz kl (ints lt)] true 0)) (.node (.node .nil (some (.cells (ints n) true 0)) .nil) (some (.cells (ints (sE S)) true 0)) (.node .nil none .nil))⟩ _
    rw [hgo] at hlast
    generalize pickN S M.length = pk at *
    set_option smartUnfolding false in conv => whnf
    refine brf (by simp) (fun hc => ?_)
    (try rw [hc])
    set_option smartUnfolding false in conv => whnf
    rcases hpk with ⟨h1, -⟩ | ⟨f, h1, h2, hpos, -⟩
    · refine brt (by simpa using h1) (fun hc => ?_)
      (try rw [hc])
      set_option smartUnfolding false in conv => whnf
      rw [if_neg (by omega)] at hlast
      exact hlast _ _ _ rfl rfl rfl
    · subst h1
      rw [if_pos (by omega), Int.toNat_natCast] at hlast
      have hld := sL_at (S := S) (i := f) (by omega)
      have hf64 := hs64 f h2
      have hlow : lower S ((f : Nat) : Int) = S.set f (jE S f, jL S f - 1) := by rw [lower, if_pos (by omega), Int.toNat_natCast]
      have hsL := sL_set (S := S) (i := f) (by omega) (jE S f, jL S f - 1)
      have hsE : ints (sE S) = ints (sE (S.set f (jE S f, jL S f - 1))) := by
        have h3 := sE_set (S := S) (i := f) (by omega) (jE S f, jL S f - 1)
        rw [← h3, splice_at _ _ _ (by rw [len_ints, sE_len]; omega)]
        exact (set_same2 (sE_at (by omega))).symm
      have hw1 : IntKind.i64.wrap (jL S f - 1) = jL S f - 1 := IntWalk.i64_in _ (by omega)
      have a1 : IntKind.i64.wrap (4 * ((f : Nat) : Int)) = ((4 * f : Nat) : Int) := by rw [IntWalk.i64_in _ (by omega)]; omega
      have a2 : IntKind.i64.wrap (((4 * f : Nat) : Int) + 4) = ((4 * f + 4 : Nat) : Int) := by rw [IntWalk.i64_in _ (by omega)]; omega
      refine ⟨_, idx_sl (by omega), ?_⟩
      set_option smartUnfolding false in conv => whnf
      refine op_some (ld1 rfl hld) ?_
      set_option smartUnfolding false in conv => whnf
      rw [hw1]
      refine ⟨_, idx_sl (by omega), ?_⟩
      set_option smartUnfolding false in conv => whnf
      refine brT (by show (Nat.ble (f + 1) (ints (sL S)).length && true) = true; rw [len_ints, sL_len, Bool.and_true]; exact Nat.ble_eq_true_of_le (by omega)) ?_
      set_option smartUnfolding false in conv => whnf
      rw [a1]
      rw [hlow] at hlast
      generalize hS' : S.set f (jE S f, jL S f - 1) = S' at *
      have hpo := pickO_is J (4 * f) 4
      refine vc_gc (ren_goB (K := K) (kw := kw) (kl := kl) (M := M) (w := w) (lt := lt) (G := ⟨S', J, n, d⟩) (J := J) (f := f) (q := 0) rfl rfl rfl rfl rfl (congrArg (fun c => some (Blk.cells c true 0)) hsL) (congrArg (fun c => some (Blk.cells c true 0)) hsE) rfl rfl) ?_
      refine for_rowL 8 5 4 (fun _ => True) (goB J f) (fun _ => RH K kw kl M w lt ⟨S', J, n, d⟩) (fun q hq _ => ?_) (fun _ => ?_) trivial
      · have ll := jc_l (J := J) (i := 4 * f + q) (by omega)
        have le := jc_e (J := J) (i := 4 * f + q) (by omega)
        have hpi := pickO_is J (4 * f) q
        have hnx : pickO J (4 * f) (q + 1) = if 0 < jL J (4 * f + q) ∧ (pickO J (4 * f) q < 0 ∨ jE J (4 * f + q) < jE J (pickO J (4 * f) q).toNat) then ((4 * f + q : Nat) : Int) else pickO J (4 * f) q := rfl
        have hkE : ∀ k, k < J.length → (jc J)[k * 2 + 0]? = some (.int .i64 (jE J k)) := fun k hk => jc_e hk
        have hend : ∀ (e1 : Env) (h1 : Heap), Tr.get e1 0 = some (.ptr 0 0) → Tr.get e1 2 = some (.int .i64 (f : Nat)) → Tr.get e1 4 = some (.int .i64 (pickO J (4 * f) (q + 1))) → Tr.get e1 5 = some (.int .i64 ((4 * f + q + 1 : Nat) : Int)) → h1.get 0 = some (.cells (rcs K kw kl M w lt d) true 0) → h1.get 1 = some (.cells (ints (sL S')) true 0) → h1.get 2 = some (.cells (ints (sE S')) true 0) → h1.get 3 = some (.cells (jc J) true 0) → h1.get 4 = some (.cells (ints n) true 0) →
            True ∧ ∃ p, GC 8 p e1 h1 (ek 5 (goB J f (q + 1))) (RH K kw kl M w lt ⟨S', J, n, d⟩) := fun e1 h1 h_0 h_2 h_4 h_5 g0 g1 g2 g3 g4 => ⟨trivial, id, ren_goB h_0 h_2 h_4 h_5 g0 g1 g2 g3 g4⟩
        show vpC fs ms 8 false false _ (ek 5 [(0, .ptr 0 0), (2, .int .i64 (f : Nat)), (4, .int .i64 (pickO J (4 * f) q)), (5, .int .i64 ((4 * f + q : Nat) : Int))]) ⟨8, .node (.node (.node (.node .nil none .nil) (some (.cells (jc J) true 0)) .nil) (some (.cells (ints (sL S')) true 0)) (.node .nil none .nil)) (some (.cells [.fz K (pts M), .nils, .fz kw (bls w), .sl 1 0 M.length M.length false, .sl 2 0 M.length M.length false, .sl 3 0 (4 * M.length) (4 * M.length) false, .sl 4 0 (4 * M.length) (4 * M.length) false, .int .i64 (d : Nat), .fz kl (ints lt)] true 0)) (.node (.node .nil (some (.cells (ints n) true 0)) .nil) (some (.cells (ints (sE S')) true 0)) (.node .nil none .nil))⟩ _
        generalize pickO J (4 * f) q = pk at *
        generalize hat : 4 * f + q = at' at *
        have hf4 : 4 * f + 4 ≤ 4 * M.length := by omega
        set_option smartUnfolding false in conv => whnf
        rw [a1]
        set_option smartUnfolding false in conv => whnf
        rw [a2]
        set_option smartUnfolding false in conv => whnf
        refine brt (by simp; omega) (fun hc => ?_)
        (try rw [hc])
        set_option smartUnfolding false in conv => whnf
        refine ⟨_, idx_slS2 (by omega), ?_⟩
        set_option smartUnfolding false in conv => whnf
        refine ⟨_, rfl, ?_⟩
        set_option smartUnfolding false in conv => whnf
        refine op_some (ld1 rfl ll) ?_
        set_option smartUnfolding false in conv => whnf
        by_cases hl : 0 < jL J at'
        · refine brt (by simpa using hl) (fun hc => ?_)
          (try rw [hc])
          set_option smartUnfolding false in conv => whnf
          rcases hpi with ⟨h1, -⟩ | ⟨k, h1, h2, -⟩
          · refine brt (by simpa using h1) (fun hc => ?_)
            (try rw [hc])
            set_option smartUnfolding false in conv => whnf
            rw [if_pos ⟨hl, .inl h1⟩] at hnx
            exact hend _ _ rfl rfl (by rw [hnx]; rfl) (inc_slot (by omega)) rfl rfl rfl rfl rfl
          · subst h1
            refine ⟨_, idx_slS2 (by omega), ?_⟩
            set_option smartUnfolding false in conv => whnf
            refine ⟨_, rfl, ?_⟩
            set_option smartUnfolding false in conv => whnf
            refine op_some (ld1 rfl le) ?_
            set_option smartUnfolding false in conv => whnf
            refine ⟨_, idx_slS2 (by omega), ?_⟩
            set_option smartUnfolding false in conv => whnf
            refine ⟨_, rfl, ?_⟩
            set_option smartUnfolding false in conv => whnf
            refine op_some (ld1 rfl (hkE (4 * f + k) (by omega))) ?_
            set_option smartUnfolding false in conv => whnf
            rw [Int.toNat_natCast] at hnx
            by_cases hlt : jE J at' < jE J (4 * f + k)
            · refine brt (by simpa using hlt) (fun hc => ?_)
              (try rw [hc])
              set_option smartUnfolding false in conv => whnf
              rw [if_pos ⟨hl, .inr hlt⟩] at hnx
              exact hend _ _ rfl rfl (by rw [hnx]; rfl) (inc_slot (by omega)) rfl rfl rfl rfl rfl
            · refine brf (by simpa using hlt) (fun hc => ?_)
              (try rw [hc])
              set_option smartUnfolding false in conv => whnf
              rw [if_neg (fun h => h.2.elim (fun h => by omega) hlt)] at hnx
              exact hend _ _ rfl rfl (by rw [hnx]; rfl) (inc_slot (by omega)) rfl rfl rfl rfl rfl
        · refine brf (by simpa using hl) (fun hc => ?_)
          (try rw [hc])
          set_option smartUnfolding false in conv => whnf
          rw [if_neg (fun h => hl h.1)] at hnx
          exact hend _ _ rfl rfl (by rw [hnx]; rfl) (inc_slot (by omega)) rfl rfl rfl rfl rfl
      · refine vc_loop (z := false) ?_
        show vpC fs ms 8 false false _ (ek 5 [(0, .ptr 0 0), (2, .int .i64 (f : Nat)), (4, .int .i64 (pickO J (4 * f) 4)), (5, .int .i64 ((4 * f + 4 : Nat) : Int))]) ⟨8, .node (.node (.node (.node .nil none .nil) (some (.cells (jc J) true 0)) .nil) (some (.cells (ints (sL S')) true 0)) (.node .nil none .nil)) (some (.cells [.fz K (pts M), .nils, .fz kw (bls w), .sl 1 0 M.length M.length false, .sl 2 0 M.length M.length false, .sl 3 0 (4 * M.length) (4 * M.length) false, .sl 4 0 (4 * M.length) (4 * M.length) false, .int .i64 (d : Nat), .fz kl (ints lt)] true 0)) (.node (.node .nil (some (.cells (ints n) true 0)) .nil) (some (.cells (ints (sE S')) true 0)) (.node .nil none .nil))⟩ _
        generalize pickO J (4 * f) 4 = pk at *
        set_option smartUnfolding false in conv => whnf
        rw [a1]
        set_option smartUnfolding false in conv => whnf
        rw [a2]
        set_option smartUnfolding false in conv => whnf
        refine brf (by simp) (fun hc => ?_)
        (try rw [hc])
        set_option smartUnfolding false in conv => whnf
        rcases hpo with ⟨h1, -⟩ | ⟨k, h1, h2, h3, -⟩
        · refine brf (by simp; omega) (fun hc => ?_)
          (try rw [hc])
          set_option smartUnfolding false in conv => whnf
          rw [lower, if_neg (by omega)] at hlast
          exact hlast _ _ _ rfl rfl rfl
        · subst h1
          have hk64 := hj64 (4 * f + k) (by omega)
          rw [lower, if_pos (by omega), Int.toNat_natCast] at hlast
          have hldJ := jc_l (J := J) (i := 4 * f + k) (by omega)
          have hlf := jc_left (J := J) (i := 4 * f + k) (by omega) (jL J (4 * f + k) - 1)
          have hw2 : IntKind.i64.wrap (jL J (4 * f + k) - 1) = jL J (4 * f + k) - 1 := IntWalk.i64_in _ (by omega)
          have hlen := jc_len J
          refine ⟨_, idx_slS2 (by omega), ?_⟩
          set_option smartUnfolding false in conv => whnf
          refine ⟨_, rfl, ?_⟩
          set_option smartUnfolding false in conv => whnf
          refine op_some (ld1 rfl hldJ) ?_
          set_option smartUnfolding false in conv => whnf
          rw [hw2]
          refine ⟨_, idx_slS2 (by omega), ?_⟩
          set_option smartUnfolding false in conv => whnf
          refine ⟨_, rfl, ?_⟩
          set_option smartUnfolding false in conv => whnf
          refine brT (by show (Nat.ble ((4 * f + k) * 2 + 1 + 1) (jc J).length && true) = true; rw [hlen, Bool.and_true]; exact Nat.ble_eq_true_of_le (by omega)) ?_
          set_option smartUnfolding false in conv => whnf
          exact hlast _ _ _ rfl rfl hlf
end Ir
end Go.Proofs.Ytecdcefacdodgaa
set_option maxRecDepth 100000
set_option linter.unusedSimpArgs false
set_option linter.unusedVariables false
namespace Go.Proofs.Ytecdcefacdodgaa
open Go Ads
namespace Ir
open Edf

def bgE (u i : Nat) : List (Nat × AV) := [(0, .ptr 0 0), (1, .int .i64 (u : Nat)), (5, .int .i64 (i : Nat))]
theorem ren_bg {K kw kl : Nat} {M : List Pt} {w : List Bool} {lt : List Int} {u i : Nat} {G : GS} {e1 : Env} {h1 : Heap} (h_0 : Tr.get e1 0 = some (.ptr 0 0)) (h_1 : Tr.get e1 1 = some (.int .i64 (u : Nat))) (h_5 : Tr.get e1 5 = some (.int .i64 (i : Nat)))
    (g0 : h1.get 0 = some (.cells (rcs K kw kl M w lt G.d) true 0)) (g1 : h1.get 1 = some (.cells (ints (sL G.s)) true 0)) (g2 : h1.get 2 = some (.cells (ints (sE G.s)) true 0)) (g3 : h1.get 3 = some (.cells (jc G.j) true 0)) (g4 : h1.get 4 = some (.cells (ints G.n) true 0)) : GC 8 id e1 h1 (ek 5 (bgE u i)) (RH K kw kl M w lt G) :=
  gc8 id ⟨⟨_, h_0, .ptr (by omega)⟩, ⟨_, h_1, .cl rfl⟩, ⟨_, h_5, .cl rfl⟩, trivial⟩ (RH_blks g0 g1 g2 g3 g4) (by decide) (by intro b hb; rfl) (by omega)

theorem begins_v (K kw kl : Nat) (M : List Pt) (w : List Bool) (lt : List Int) (u : Nat) (G : GS) (hM : ∀ x, x ∈ M → Plain x) (hts : ∀ i, i < M.length → (pA M i).ts.length ≤ 4) (hM4 : M.length ≤ 4) (hw : w.length = M.length) (hok : GOk M.length G) (hu : u < 1000) (hd : ∀ i, i ≤ M.length → (begN M w lt u G i).d ≤ 100000) (hlt : lt.length < 2 ^ 62)
    (hno : ∀ i, i < M.length → inA w i = true → (((u : Nat) : Int) % (pA M i).per = 0 → jL G.s i = 0) ∧ ∀ q, q < (pA M i).ts.length → 0 < jL G.j (4 * i + q) → ((u : Nat) : Int) < jE G.j (4 * i + q)) :
    VD fs ms f_escapementlaw12_run_begins [.ptr 0 0, .int .i64 (u : Nat)] (RH K kw kl M w lt G) (fun v h => v = .bool true ∧ h = RH K kw kl M w lt (begN M w lt u G M.length)) := by
  refine vd_start (af := C_escapementlaw12_run_begins) false rfl (Nat.le_of_ble_eq_true rfl) ?_
  generalize hQ : (fun (v : AV) (h : Heap) => v = .bool true ∧ h = RH K kw kl M w lt (begN M w lt u G M.length)) = Q
  have hlast : Q (.bool true) (RH K kw kl M w lt (begN M w lt u G M.length)) := by subst hQ; exact ⟨rfl, rfl⟩
  clear hQ
  show startF _ _ fun e => vpC fs ms 8 false false _ e ⟨8, .node (.node (.node (.node .nil none .nil) (some (.cells (jc G.j) true 0)) .nil) (some (.cells (ints (sL G.s)) true 0)) (.node .nil none .nil)) (some (.cells (rcs K kw kl M w lt G.d) true 0)) (.node (.node .nil (some (.cells (ints G.n) true 0)) .nil) (some (.cells (ints (sE G.s)) true 0)) (.node .nil none .nil))⟩ _
  set_option smartUnfolding false in conv => whnf
  refine vc_gc (ren_bg (K := K) (kw := kw) (kl := kl) (M := M) (w := w) (lt := lt) (G := begN M w lt u G 0) (u := u) (i := 0) rfl rfl rfl rfl rfl rfl rfl rfl) ?_
  refine for_rowL 8 5 M.length (fun _ => True) (bgE u) (fun i => RH K kw kl M w lt (begN M w lt u G i)) (fun i hi _ => ?_) (fun _ => ?_) trivial
  · have hno := hno i hi
    have hR := begN_ok (M := M) (w := w) (lt := lt) (u := u) hok i
    have hs := (begN_srv (M := M) (w := w) (lt := lt) (u := u) hok i i (by omega)).2
    rw [if_neg (by omega)] at hs
    have hj : ∀ q, q < 4 → jL (begN M w lt u G i).j (4 * i + q) = jL G.j (4 * i + q) ∧ jE (begN M w lt u G i).j (4 * i + q) = jE G.j (4 * i + q) := by
      intro q hq
      obtain ⟨h1, h2, -⟩ := begN_tsk (M := M) (w := w) (lt := lt) (u := u) hok hts i q hq i (by omega)
      rw [if_neg (by omega)] at h1 h2
      exact ⟨h2, h1⟩
    have hnx : begN M w lt u G (i + 1) = begOne M w lt u (begN M w lt u G i) i := rfl
    have hdi := hd i (by omega)
    have hx := hM _ (pA_mem hi)
    have hdel : delCheck [pA M i] = 0 := plain_del (M := [pA M i]) (fun x hx2 => by rw [List.mem_singleton] at hx2; rw [hx2]; exact hx) (by simp)
    have ho := okT_of hdel (x := pA M i) (by simp)
    obtain ⟨p1, p2, p3, p4⟩ := hx.2.2.1
    have hix := idx_pt (k := K) hi
    have hib := idx_bl (l := w) (j := i) (k := kw) (by omega)
    have hin := inA_eq (w := w) (i := i) (by omega)
    have hm4 := hts i hi
    have hpa := pA_eq hi
    rw [← hin] at hib
    rw [← hpa] at hix
    generalize hxx : pA M i = x at *
    generalize begN M w lt u G (i + 1) = R' at *
    generalize begN M w lt u G i = R at *
    obtain ⟨S, J, n, d⟩ := R
    obtain ⟨o1, o2, o3⟩ := hR
    simp only at o1 o2 o3 hs hj hdi
    have hend : ∀ (e1 : Env) (h1 : Heap), Tr.get e1 0 = some (.ptr 0 0) → Tr.get e1 1 = some (.int .i64 (u : Nat)) → Tr.get e1 5 = some (.int .i64 ((i + 1 : Nat) : Int)) → h1.get 0 = some (.cells (rcs K kw kl M w lt R'.d) true 0) → h1.get 1 = some (.cells (ints (sL R'.s)) true 0) → h1.get 2 = some (.cells (ints (sE R'.s)) true 0) → h1.get 3 = some (.cells (jc R'.j) true 0) → h1.get 4 = some (.cells (ints R'.n) true 0) →
        True ∧ ∃ p, GC 8 p e1 h1 (ek 5 (bgE u (i + 1))) (RH K kw kl M w lt R') := fun e1 h1 h_0 h_1 h_5 g0 g1 g2 g3 g4 => ⟨trivial, id, ren_bg h_0 h_1 h_5 g0 g1 g2 g3 g4⟩
    show vpC fs ms 8 false false _ (ek 5 [(0, .ptr 0 0), (1, .int .i64 (u : Nat)), (5, .int .i64 (i : Nat))]) ⟨8, .node (.node (.node (.node .nil none .nil) (some (.cells (jc J) true 0)) .nil) (some (.cells (ints (sL S)) true 0)) (.node .nil none .nil)) (some (.cells [.fz K (pts M), .nils, .fz kw (bls w), .sl 1 0 M.length M.length false, .sl 2 0 M.length M.length false, .sl 3 0 (4 * M.length) (4 * M.length) false, .sl 4 0 (4 * M.length) (4 * M.length) false, .int .i64 (d : Nat), .fz kl (ints lt)] true 0)) (.node (.node .nil (some (.cells (ints n) true 0)) .nil) (some (.cells (ints (sE S)) true 0)) (.node .nil none .nil))⟩ _
    unfold begOne at hnx
    set_option smartUnfolding false in conv => whnf
    refine brt (by rw [len_pts]; simp; omega) (fun hc => ?_)
    (try rw [hc])
    set_option smartUnfolding false in conv => whnf
    refine ⟨_, hix, ?_⟩
    set_option smartUnfolding false in conv => whnf
    refine ⟨_, hib, ?_⟩
    set_option smartUnfolding false in conv => whnf
    cases hb : inA w i with
    | false =>
      rw [hb, if_neg (by decide)] at hnx
      set_option smartUnfolding false in conv => whnf
      exact hend _ _ rfl rfl (inc_slot (by omega)) (by rw [hnx]; rfl) (by rw [hnx]; rfl) (by rw [hnx]; rfl) (by rw [hnx]; rfl) (by rw [hnx]; rfl)
    | true =>
      rw [hb, if_pos rfl] at hnx
      obtain ⟨hno1, hno2⟩ := hno hb
      set_option smartUnfolding false in conv => whnf
      refine ⟨_, rem_val _ _ (by omega), ?_⟩
      set_option smartUnfolding false in conv => whnf
      rw [Int.tmod_eq_emod_of_nonneg (show (0 : Int) ≤ ((u : Nat) : Int) by omega)]
      by_cases hmod : ((u : Nat) : Int) % x.per = 0
      · have hs0 : jL S i = 0 := hs.trans (hno1 hmod)
        have hld := sL_at (S := S) (i := i) (by omega)
        rw [hs0] at hld
        have hw1 : IntKind.i64.wrap (((u : Nat) : Int) + x.per) = ((u : Nat) : Int) + x.per := IntWalk.i64_in _ (by omega)
        have hsL := sL_set (S := S) (i := i) (by omega) (((u : Nat) : Int) + x.per, x.bud)
        have hsE := sE_set (S := S) (i := i) (by omega) (((u : Nat) : Int) + x.per, x.bud)
        refine brt (by rw [hmod]; rfl) (fun hc => ?_)
        (try rw [hc])
        set_option smartUnfolding false in conv => whnf
        refine ⟨_, idx_sl (by omega), ?_⟩
        set_option smartUnfolding false in conv => whnf
        refine op_some (ld1 rfl hld) ?_
        set_option smartUnfolding false in conv => whnf
        refine ⟨_, idx_sl (by omega), ?_⟩
        set_option smartUnfolding false in conv => whnf
        refine brT (by show (Nat.ble (i + 1) (ints (sL S)).length && true) = true; rw [len_ints, sL_len, Bool.and_true]; exact Nat.ble_eq_true_of_le (by omega)) ?_
        set_option smartUnfolding false in conv => whnf
        rw [hw1]
        refine ⟨_, idx_sl (by omega), ?_⟩
        set_option smartUnfolding false in conv => whnf
        refine brT (by show (Nat.ble (i + 1) (ints (sE S)).length && true) = true; rw [len_ints, sE_len, Bool.and_true]; exact Nat.ble_eq_true_of_le (by omega)) ?_
        set_option smartUnfolding false in conv => whnf
        refine vc_frz [8] (i := 6) (v' := .fp (pt x).cells 0) rfl (.ptr' (by simp) rfl (.clean (show clL (pt x).cells = true by simp [pt, AV.cells, clL, AV.cl, cl_tks]))) ?_
        have hR1 : R' = tskN M lt u i ⟨S.set i (((u : Nat) : Int) + x.per, x.bud), J, n, d⟩ x.ts.length := by rw [hnx, srvOne, hxx, if_pos hmod]
        refine vc_gc (ren_tk (K := K) (kw := kw) (kl := kl) (M := M) (w := w) (lt := lt) (G := ⟨S.set i (((u : Nat) : Int) + x.per, x.bud), J, n, d⟩) (x := x) (u := u) (i := i) (q := 0) rfl rfl rfl rfl rfl rfl (congrArg (fun c => some (Blk.cells c true 0)) hsL) (congrArg (fun c => some (Blk.cells c true 0)) hsE) rfl rfl) ?_
        refine tsk_in K kw kl M w lt x u i ⟨S.set i (((u : Nat) : Int) + x.per, x.bud), J, n, d⟩ hi hxx hM4 ho ⟨by simpa using o1, o2, o3⟩ hu hdi hm4 hlt (fun q hq => by show 0 < jL J (4 * i + q) → _ < jE J (4 * i + q); rw [(hj q (by omega)).1, (hj q (by omega)).2]; exact hno2 q hq) ?_
        rw [← hR1]
        obtain ⟨S2, J2, n2, d2⟩ := R'
        refine vc_loop (z := false) ?_
        show vpC fs ms 8 false false _ (ek 5 [(0, .ptr 0 0), (1, .int .i64 (u : Nat)), (5, .int .i64 (i : Nat)), (6, .fp (pt x).cells 0), (7, .int .i64 (x.ts.length : Nat))]) ⟨8, .node (.node (.node (.node .nil none .nil) (some (.cells (jc J2) true 0)) .nil) (some (.cells (ints (sL S2)) true 0)) (.node .nil none .nil)) (some (.cells (rcs K kw kl M w lt d2) true 0)) (.node (.node .nil (some (.cells (ints n2) true 0)) .nil) (some (.cells (ints (sE S2)) true 0)) (.node .nil none .nil))⟩ _
        set_option smartUnfolding false in conv => whnf
        refine brf (by rw [len_tks]; simp) (fun hc => ?_)
        (try rw [hc])
        set_option smartUnfolding false in conv => whnf
        exact hend _ _ rfl rfl (inc_slot (by omega)) rfl rfl rfl rfl rfl
      · refine brf (by exact beq_eq_false_iff_ne.2 hmod) (fun hc => ?_)
        (try rw [hc])
        set_option smartUnfolding false in conv => whnf
        refine vc_frz [8] (i := 6) (v' := .fp (pt x).cells 0) rfl (.ptr' (by simp) rfl (.clean (show clL (pt x).cells = true by simp [pt, AV.cells, clL, AV.cl, cl_tks]))) ?_
        have hR1 : R' = tskN M lt u i ⟨S, J, n, d⟩ x.ts.length := by rw [hnx, srvOne, hxx, if_neg hmod]
        refine vc_gc (ren_tk (K := K) (kw := kw) (kl := kl) (M := M) (w := w) (lt := lt) (G := ⟨S, J, n, d⟩) (x := x) (u := u) (i := i) (q := 0) rfl rfl rfl rfl rfl rfl rfl rfl rfl rfl) ?_
        refine tsk_in K kw kl M w lt x u i ⟨S, J, n, d⟩ hi hxx hM4 ho ⟨o1, o2, o3⟩ hu hdi hm4 hlt (fun q hq => by show 0 < jL J (4 * i + q) → _ < jE J (4 * i + q); rw [(hj q (by omega)).1, (hj q (by omega)).2]; exact hno2 q hq) ?_
        rw [← hR1]
        obtain ⟨S2, J2, n2, d2⟩ := R'
        refine vc_loop (z := false) ?_
        show vpC fs ms 8 false false _ (ek 5 [(0, .ptr 0 0), (1, .int .i64 (u : Nat)), (5, .int .i64 (i : Nat)), (6, .fp (pt x).cells 0), (7, .int .i64 (x.ts.length : Nat))]) ⟨8, .node (.node (.node (.node .nil none .nil) (some (.cells (jc J2) true 0)) .nil) (some (.cells (ints (sL S2)) true 0)) (.node .nil none .nil)) (some (.cells (rcs K kw kl M w lt d2) true 0)) (.node (.node .nil (some (.cells (ints n2) true 0)) .nil) (some (.cells (ints (sE S2)) true 0)) (.node .nil none .nil))⟩ _
        set_option smartUnfolding false in conv => whnf
        refine brf (by rw [len_tks]; simp) (fun hc => ?_)
        (try rw [hc])
        set_option smartUnfolding false in conv => whnf
        exact hend _ _ rfl rfl (inc_slot (by omega)) rfl rfl rfl rfl rfl
  · refine vc_loop (z := false) ?_
    generalize begN M w lt u G M.length = R at *
    obtain ⟨S, J, n, d⟩ := R
    show vpC fs ms 8 false false _ (ek 5 [(0, .ptr 0 0), (1, .int .i64 (u : Nat)), (5, .int .i64 (M.length : Nat))]) ⟨8, .node (.node (.node (.node .nil none .nil) (some (.cells (jc J) true 0)) .nil) (some (.cells (ints (sL S)) true 0)) (.node .nil none .nil)) (some (.cells [.fz K (pts M), .nils, .fz kw (bls w), .sl 1 0 M.length M.length false, .sl 2 0 M.length M.length false, .sl 3 0 (4 * M.length) (4 * M.length) false, .sl 4 0 (4 * M.length) (4 * M.length) false, .int .i64 (d : Nat), .fz kl (ints lt)] true 0)) (.node (.node .nil (some (.cells (ints n) true 0)) .nil) (some (.cells (ints (sE S)) true 0)) (.node .nil none .nil))⟩ _
    set_option smartUnfolding false in conv => whnf
    refine brf (by rw [len_pts]; simp) (fun hc => ?_)
    (try rw [hc])
    set_option smartUnfolding false in conv => whnf
    exact hlast
end Ir
end Go.Proofs.Ytecdcefacdodgaa
set_option maxRecDepth 100000
set_option linter.unusedSimpArgs false
set_option linter.unusedVariables false
namespace Go.Proofs.Ytecdcefacdodgaa
open Go Ads
namespace Ir
open Edf

section
variable {M : List Pt} {w : List Bool} {lt : List Int}
theorem tskN_d {u i : Nat} {G : GS} : ∀ q, (tskN M lt u i G q).d ≤ G.d + q
  | 0 => Nat.le_refl _
  | q + 1 => by
    have := tskN_d (u := u) (i := i) (G := G) q
    rw [tskN, tskOne]
    split
    · show _ + 1 ≤ _; omega
    · omega
theorem begN_d {u : Nat} {G : GS} (hts : ∀ i, i < M.length → (pA M i).ts.length ≤ 4) : ∀ i, i ≤ M.length → (begN M w lt u G i).d ≤ G.d + 4 * i
  | 0, _ => Nat.le_refl _
  | i + 1, h => by
    have h1 := begN_d (u := u) (G := G) hts i (by omega)
    have h2 := hts i (by omega)
    rw [begN, begOne]
    split
    · have h3 := tskN_d (M := M) (lt := lt) (u := u) (i := i) (G := srvOne M u (begN M w lt u G i) i) (pA M i).ts.length
      rw [(srvOne_j (M := M) (u := u) (i := i) (G := begN M w lt u G i)).2.2] at h3
      omega
    · omega
theorem gSt_d (hts : ∀ i, i < M.length → (pA M i).ts.length ≤ 4) (hM4 : M.length ≤ 4) : ∀ u, (gSt M w lt u).d ≤ 16 * u
  | 0 => Nat.le_refl _
  | u + 1 => by
    have h1 := begN_d (w := w) (lt := lt) (u := u) (G := gSt M w lt u) hts M.length (Nat.le_refl _)
    have h2 := gSt_d hts hM4 u
    have hg : (goeS M (begN M w lt u (gSt M w lt u) M.length)).d = (begN M w lt u (gSt M w lt u) M.length).d := by
      unfold goeS
      split <;> rfl
    show (goeS M (begN M w lt u (gSt M w lt u) M.length)).d ≤ _
    rw [hg]
    omega
/-- No more ticks are left than there were at first. -/
theorem beg_1000 {u : Nat} {G : GS} (hM : ∀ x, x ∈ M → Plain x) (hts : ∀ i, i < M.length → (pA M i).ts.length ≤ 4) (hok : GOk M.length G) (h1 : ∀ a, a < M.length → jL G.s a ≤ 1000) (h2 : ∀ a q, a < M.length → q < 4 → jL G.j (4 * a + q) ≤ 1000) :
    (∀ a, a < M.length → jL (begN M w lt u G M.length).s a ≤ 1000) ∧ ∀ a q, a < M.length → q < 4 → jL (begN M w lt u G M.length).j (4 * a + q) ≤ 1000 := by
  constructor
  · intro a ha
    obtain ⟨p1, p2, p3, p4⟩ := (hM _ (pA_mem ha)).2.2.1
    rw [(begN_srv (M := M) (w := w) (lt := lt) (u := u) hok a M.length (Nat.le_refl _)).2]
    split
    · omega
    · exact h1 a ha
  · intro a q ha hq
    have hx := hM _ (pA_mem ha)
    have hdel : delCheck [pA M a] = 0 := plain_del (M := [pA M a]) (fun x hx2 => by rw [List.mem_singleton] at hx2; rw [hx2]; exact hx) (by simp)
    rw [(begN_tsk (M := M) (w := w) (lt := lt) (u := u) hok hts a q hq M.length (Nat.le_refl _)).2.1]
    split
    · rename_i hat
      have hqm := hat.2.1.2
      obtain ⟨o1, o2, o3, o4⟩ := okT_of hdel (x := pA M a) (by simp) _ (List.getElem_mem hqm)
      rw [tC, tk_get hqm]
      omega
    · exact h2 a q ha hq
theorem gSt_1000 (hM : ∀ x, x ∈ M → Plain x) (hts : ∀ i, i < M.length → (pA M i).ts.length ≤ 4) : ∀ u, (∀ a, a < M.length → jL (gSt M w lt u).s a ≤ 1000) ∧ ∀ a q, a < M.length → q < 4 → jL (gSt M w lt u).j (4 * a + q) ≤ 1000
  | 0 => by
    constructor
    · intro a ha
      show jL (List.replicate M.length (0, 0)) a ≤ 1000
      rw [jL_eq (by simpa using ha)]
      simp
    · intro a q ha hq
      show jL (List.replicate (4 * M.length) (0, 0)) (4 * a + q) ≤ 1000
      rw [jL_eq (by simp; omega)]
      simp
  | u + 1 => by
    have ih := gSt_1000 hM hts u
    obtain ⟨b1, b2⟩ := beg_1000 (w := w) (lt := lt) (u := u) hM hts (gSt_ok u) ih.1 ih.2
    have hok := begN_ok (M := M) (w := w) (lt := lt) (u := u) (gSt_ok (M := M) (w := w) (lt := lt) u) M.length
    constructor
    · intro a ha
      show jL (goeS M (begN M w lt u (gSt M w lt u) M.length)).s a ≤ 1000
      rw [(goe_s hok a).2]
      have := b1 a ha
      split <;> omega
    · intro a q ha hq
      show jL (goeS M (begN M w lt u (gSt M w lt u) M.length)).j (4 * a + q) ≤ 1000
      rw [(goe_j hok ha hq).2]
      have := b2 a q ha hq
      split <;> omega
end

/-- What the test may answer. -/
theorem gate_snd {M : List Pt} {w : List Bool} (h : ∀ x, x ∈ M → Plain x) (h1 : 1 ≤ M.length) (h4 : M.length ≤ 4) (hw : w.length = M.length) : (gateS M w).2.2 = 0 ∨ (gateS M w).2.2 = 5 ∨ (gateS M w).2.2 = 120 := by
  have hask : askedS M w = 0 := by rw [askedS, if_pos (plain_conf h h1 h4), if_pos hw]
  have hsl := (sel_len hw M.length (Nat.le_refl _)).1
  have hS : ∀ x, x ∈ selP M w M.length → Plain x := fun x hx => h x (selP_mem hx)
  unfold gateS
  rw [hask, if_neg (by omega)]
  generalize selP M w M.length = S at *
  have hR := sumR_short (fun x hx => (hS x hx).2.2.1) (show S.length ≤ 4 by omega)
  have hdel := plain_del hS (by omega)
  by_cases hs : shareT S = 0
  · rw [if_neg (by omega)]
    cases hfb : firstBad (fun i => !((testS S ((i : Nat) : Int)).2 == 0)) 0 S.length with
    | none => exact .inl rfl
    | some u =>
      obtain ⟨u1, u2, u3, u4⟩ := firstBad_some hfb
      exact testS_snd hdel (i := u) (by omega)
  · rw [if_pos hs]
    refine .inr (.inr ?_)
    show shareT S = 120
    unfold shareT at hs ⊢
    rw [hR] at hs ⊢
    simp only [if_true] at hs ⊢
    split
    · rfl
    · rename_i h2
      rw [if_neg h2] at hs
      exact absurd rfl hs
theorem mk_16 {zs : List AV} {sz bytes n : Nat} (hn : n ≤ 16) (hb : bytes ≤ 1048576) : aI (.mkslice zs sz bytes) [.int .i64 (n : Nat), .int .i64 (n : Nat)] = some (.cells (zerosN zs n) true 0, fun b => .sl b 0 n n false) := by
  have hm : bytes * n ≤ 1048576 * 16 := Nat.mul_le_mul hb hn
  have b2 : Nat.ble (bytes * n) 140737488355328 = true := Nat.ble_eq_true_of_le (by omega)
  have b3 : Nat.ble n 9223372036854775807 = true := Nat.ble_eq_true_of_le (by omega)
  have b1 : Nat.ble n n = true := Nat.ble_eq_true_of_le (by omega)
  show cond (Nat.ble n n && Nat.ble (bytes * n) 140737488355328 && Nat.ble n 9223372036854775807) (some (Blk.cells (zerosN zs n) true 0, fun b => AV.sl b 0 n n false)) none = _
  rw [b1, b2, b3]
  rfl
theorem zeros_jcG : ∀ n : Nat, zerosN [.int .i64 0, .int .i64 0] n = jc (List.replicate n (0, 0))
  | 0 => rfl
  | n + 1 => by
    show AV.int .i64 0 :: AV.int .i64 0 :: zerosN [.int .i64 0, .int .i64 0] n = AV.int .i64 0 :: AV.int .i64 0 :: jc (List.replicate n (0, 0))
    rw [zeros_jcG n]
def gkE (u : Nat) : List (Nat × AV) := [(13, .ptr 0 0), (14, .int .i64 (u : Nat))]
theorem ren_gk {K kw kl : Nat} {M : List Pt} {w : List Bool} {lt : List Int} {u : Nat} {G : GS} {e1 : Env} {h1 : Heap} (h_13 : Tr.get e1 13 = some (.ptr 0 0)) (h_14 : Tr.get e1 14 = some (.int .i64 (u : Nat)))
    (g0 : h1.get 0 = some (.cells (rcs K kw kl M w lt G.d) true 0)) (g1 : h1.get 1 = some (.cells (ints (sL G.s)) true 0)) (g2 : h1.get 2 = some (.cells (ints (sE G.s)) true 0)) (g3 : h1.get 3 = some (.cells (jc G.j) true 0)) (g4 : h1.get 4 = some (.cells (ints G.n) true 0)) : GC 0 id e1 h1 (ek 5 (gkE u)) (RH K kw kl M w lt G) :=
  gc8 id ⟨⟨_, h_13, .ptr (by omega)⟩, ⟨_, h_14, .cl rfl⟩, trivial⟩ (RH_blks g0 g1 g2 g3 g4) (by decide) (by intro b hb; rfl) (by omega)
def rc0 (K kw kl : Nat) (M : List Pt) (w : List Bool) (lt : List Int) : List AV :=
  [.fz K (pts M), .nils, .fz kw (bls w), .sl 0 0 M.length M.length false, .sl 1 0 M.length M.length false, .sl 2 0 (4 * M.length) (4 * M.length) false, .sl 3 0 (4 * M.length) (4 * M.length) false, .int .i64 ((0 : Nat) : Int), .fz kl (ints lt)]
def pmk (b : Nat) : Nat := bif Nat.beq b 0 then 4 else bif Nat.beq b 1 then 0 else bif Nat.beq b 2 then 1 else bif Nat.beq b 3 then 2 else bif Nat.beq b 4 then 3 else b
theorem rc0_ren {K kw kl : Nat} {M : List Pt} {w : List Bool} {lt : List Int} : RenB pmk 8 (.cells (rcs K kw kl M w lt 0) true 0) (.cells (rc0 K kw kl M w lt) true 0) := by
  refine .cells rfl fun a x y hx hy => ?_
  have hcl1 := cl_pts M
  have hcl2 := cl_bls w
  have hcl3 := cl_ints lt
  match a, hx, hy with
  | 0, hx, hy => cases hx; cases hy; exact .cl (by simp [AV.cl, hcl1])
  | 1, hx, hy => cases hx; cases hy; exact .cl rfl
  | 2, hx, hy => cases hx; cases hy; exact .cl (by simp [AV.cl, hcl2])
  | 3, hx, hy => cases hx; cases hy; exact .sl (b := 1) (by omega)
  | 4, hx, hy => cases hx; cases hy; exact .sl (b := 2) (by omega)
  | 5, hx, hy => cases hx; cases hy; exact .sl (b := 3) (by omega)
  | 6, hx, hy => cases hx; cases hy; exact .sl (b := 4) (by omega)
  | 7, hx, hy => cases hx; cases hy; exact .cl rfl
  | 8, hx, hy => cases hx; cases hy; exact .cl (by simp [AV.cl, hcl3])

theorem gateKeeps_c (k : Nat) (l : List Pt) (n : Int) (kl : Nat) (lt : List Int) (hs : Small l) (hlt : lt.length < 2 ^ 62) : PC fs ms f_escapementlaw12_GateKeeps [.fz k (pts l), .int .i64 n, .fz kl (ints lt)] (.bool true) := by
  refine pc_of (by simp [clL, AV.cl, cl_pts, cl_ints]) rfl ?_
  refine vd_begin (af := C_escapementlaw12_GateKeeps) rfl (Nat.le_of_ble_eq_true rfl) ?_
  generalize hQ : (fun (v : AV) (_ : Heap) => v = .bool true) = Q
  have hM := m12Ps_plain (l := l)
  have hM4 : (m12Ps l).length ≤ 4 := by simp [m12Ps]; omega
  have hM3 : ∀ x, x ∈ m12Ps l → x.ts.length ≤ 3 := fun x hx => by obtain ⟨y, rfl⟩ := m12Ps_mem hx; exact (m12P_ok y).2.2.2.2
  have hMs : Small (m12Ps l) := ⟨by omega, fun x hx => by have := hM3 x hx; omega⟩
  have hmade := made12_c k l hs
  generalize m12Ps l = M at *
  generalize growK M.length = K at *
  have hn1 := Int.emod_nonneg n (show (16 : Int) ≠ 0 by omega)
  have hn2 := Int.emod_lt_of_pos n (show (0 : Int) < 16 by omega)
  have hbn := bring_c n 16 (by omega) (by omega)
  rw [show bring n 16 = n % 16 from rfl] at hbn
  generalize n % 16 = a at *
  have hwho := who_c K M a hMs (by omega)
  have hwl := whoL_len a M.length
  generalize whoL a M.length = w at *
  generalize hKw : growK M.length = kw at *
  have hgt := gateTest_c K kw M w hMs
  set_option smartUnfolding false in conv => whnf
  refine vc_seq false ?_
  set_option smartUnfolding false in conv => whnf
  refine vc_seq false ?_
  set_option smartUnfolding false in conv => whnf
  refine vd_pure (works12_c) ?_
  set_option smartUnfolding false in conv => whnf
  refine vc_seq false ?_
  set_option smartUnfolding false in conv => whnf
  refine vd_pure (v := .agg [.fz K (pts M), .nils]) hmade ?_
  set_option smartUnfolding false in conv => whnf
  refine vc_frz [0] (i := 7) (v' := .fp [.fz K (pts M), .nils] 0) rfl (.ptr' (by simp) rfl (.clean (show clL [.fz K (pts M), .nils] = true by simp [clL, AV.cl, cl_pts]))) ?_
  refine vc_to0 5 [(1, .int .i64 n), (2, .fz kl (ints lt)), (7, .fp [.fz K (pts M), .nils] 0)] ?_ ?_
  · exact ⟨⟨_, rfl, .cl rfl⟩, ⟨_, rfl, .cl (by simp [AV.cl, cl_ints])⟩, ⟨_, rfl, .cl (by simp [AV.cl, clL, cl_pts])⟩, trivial⟩
  refine vpC_sound (z := false) ?_
  set_option smartUnfolding false in conv => whnf
  rw [len_pts]
  by_cases h0 : M.length = 0
  · refine brt (by rw [h0]; rfl) (fun hc => ?_)
    (try rw [hc])
    set_option smartUnfolding false in conv => whnf
    subst hQ
    rfl
  refine brf (by exact beq_eq_false_iff_ne.2 (by omega)) (fun hc => ?_)
  (try rw [hc])
  set_option smartUnfolding false in conv => whnf
  have hsnd := gate_snd hM (by omega) hM4 hwl
  have hgp := gate_plain hM (by omega) hM4 hwl
  have hts : ∀ i, i < M.length → (pA M i).ts.length ≤ 4 := fun i hi => by have := hM3 _ (pA_mem hi); omega
  have hkeep := fun (h1 : sumWt (selP M w M.length) ≤ 2520) (h2 : ∀ x, x ∈ selP M w M.length → (testS [x] 0).2 = 0) => gate_keeps (lt := lt) hM hts hwl h1 h2
  generalize gateS M w = q at *
  obtain ⟨q1, q2, q3⟩ := q
  simp only at hsnd hgp
  refine vd_pure (hbn) ?_
  set_option smartUnfolding false in conv => whnf
  refine vd_pure (hwho) ?_
  set_option smartUnfolding false in conv => whnf
  refine ⟨winOk_of (by (set_option smartUnfolding false in conv => whnf); repeat' (first | exact trivial | (exact ⟨rfl, rfl, .inr ⟨_, _, rfl⟩⟩) | (refine ⟨rfl, rfl, .inl ⟨rfl, fun o ho => ?_⟩⟩; cases ho; first | rfl) | (exact ⟨rfl, .inr ⟨_, _, rfl⟩⟩) | (refine ⟨rfl, .inl ⟨rfl, fun i o hi ho => ?_⟩⟩; cases hi; cases ho; first | rfl) | (refine And.intro (fun _ => ?_) ?_ <;> set_option smartUnfolding false in conv => whnf) | (refine And.intro ?_ ?_ <;> set_option smartUnfolding false in conv => whnf))), ?_⟩
  set_option smartUnfolding false in conv => whnf
  refine vd_pure (v := .tup [.int .i64 q1, .int .i64 q2, .int .i64 q3]) hgt ?_
  set_option smartUnfolding false in conv => whnf
  rcases hsnd with rfl | rfl | rfl
  case inr.inl =>
    set_option smartUnfolding false in conv => whnf
    subst hQ
    rfl
  case inr.inr =>
    set_option smartUnfolding false in conv => whnf
    subst hQ
    rfl
  obtain ⟨hsum, htest⟩ := hgp.1 rfl
  have hkeep := hkeep hsum htest
  have a1 : IntKind.i64.wrap (4 * ((M.length : Nat) : Int)) = ((4 * M.length : Nat) : Int) := by rw [IntWalk.i64_in _ (by omega)]; omega
  set_option smartUnfolding false in conv => whnf
  rw [len_pts]
  refine ⟨_, _, mk_16 (by omega) (by omega), ?_⟩
  set_option smartUnfolding false in conv => whnf
  refine ⟨_, _, mk_16 (by omega) (by omega), ?_⟩
  set_option smartUnfolding false in conv => whnf
  rw [a1]
  refine ⟨_, _, mk_16 (by omega) (by omega), ?_⟩
  set_option smartUnfolding false in conv => whnf
  rw [a1]
  refine ⟨_, _, mk_16 (by omega) (by omega), ?_⟩
  set_option smartUnfolding false in conv => whnf
  have z1 : zerosN [.int .i64 0] M.length = ints (sL (gSt M w lt 0).s) := by
    show _ = ints (sL (List.replicate M.length (0, 0)))
    rw [zerosN_int, sL, List.map_replicate]
  have z2 : zerosN [.int .i64 0] M.length = ints (sE (gSt M w lt 0).s) := by
    show _ = ints (sE (List.replicate M.length (0, 0)))
    rw [zerosN_int, sE, List.map_replicate]
  refine vc_gc (e' := ek 5 (gkE 0)) (h' := RH K kw kl M w lt (gSt M w lt 0)) (p := pmk) (gc8 pmk ⟨⟨_, rfl, .ptr (b := 0) (by omega)⟩, ⟨_, rfl, .cl rfl⟩, trivial⟩ (all8 (one_blk ⟨_, rfl, rc0_ren⟩) (one_blk ⟨_, rfl, renB_cl z1 (cl_ints _)⟩) (one_blk ⟨_, rfl, renB_cl z2 (cl_ints _)⟩) (one_blk ⟨_, rfl, renB_cl (zeros_jcG _) (jc_cl _)⟩) (one_blk ⟨_, rfl, renB_cl (zerosN_int _) (cl_ints _)⟩) no_blk no_blk no_blk) (by decide) (by intro b hb; omega) (by omega)) ?_
  refine for_rowL 0 5 500 (fun _ => True) gkE (fun u => RH K kw kl M w lt (gSt M w lt u)) (fun u hu _ => ?_) (fun _ => ?_) trivial
  · have hok := gSt_ok (M := M) (w := w) (lt := lt) u
    have hbok := begN_ok (M := M) (w := w) (lt := lt) (u := u) hok M.length
    have hdd : ∀ i, i ≤ M.length → (begN M w lt u (gSt M w lt u) i).d ≤ 100000 := fun i hi => by
      have h1 := begN_d (w := w) (lt := lt) (u := u) (G := gSt M w lt u) hts i hi
      have h2 := gSt_d (w := w) (lt := lt) hts hM4 u
      omega
    have h1000 := gSt_1000 (w := w) (lt := lt) hM hts u
    obtain ⟨b1, b2⟩ := beg_1000 (w := w) (lt := lt) (u := u) hM hts hok h1000.1 h1000.2
    have hb := begins_v K kw kl M w lt u (gSt M w lt u) hM hts hM4 hwl hok (by omega) hdd hlt (fun i hi hin => hkeep u (by omega) i hi hin)
    have hg := goes_v K kw kl M w lt (begN M w lt u (gSt M w lt u) M.length) hbok hM4 b1 (fun a ha => by
      have := b2 (a / 4) (a % 4) (by omega) (by omega)
      rwa [show 4 * (a / 4) + a % 4 = a by omega] at this)
    have hnx : goeS M (begN M w lt u (gSt M w lt u) M.length) = gSt M w lt (u + 1) := rfl
    rw [hnx] at hg
    obtain ⟨U, hU⟩ : ∃ U : Int, ((u : Nat) : Int) = U := ⟨_, rfl⟩
    have hU5 : U < 500 := by omega
    rw [hU] at hb
    have hE : gkE u = [(13, .ptr 0 0), (14, .int .i64 U)] := by rw [← hU]; rfl
    rw [hE]
    set_option smartUnfolding false in conv => whnf
    refine brt (decide_eq_true hU5) (fun hc => ?_)
    (try rw [hc])
    set_option smartUnfolding false in conv => whnf
    refine VD.mono hb fun v h hv => ?_
    obtain ⟨rfl, rfl⟩ := hv
    set_option smartUnfolding false in conv => whnf
    refine VD.mono hg fun v h hv => ?_
    obtain ⟨rfl, rfl⟩ := hv
    set_option smartUnfolding false in conv => whnf
    exact ⟨trivial, id, ren_gk rfl (by rw [← hU]; exact inc_slot (by omega)) rfl rfl rfl rfl rfl⟩
  · refine vc_loop (z := false) ?_
    generalize gSt M w lt 500 = G at *
    obtain ⟨U, hU⟩ : ∃ U : Int, ((500 : Nat) : Int) = U := ⟨_, rfl⟩
    have hE : gkE 500 = [(13, .ptr 0 0), (14, .int .i64 U)] := by rw [← hU]; rfl
    rw [hE]
    set_option smartUnfolding false in conv => whnf
    refine brf (decide_eq_false (by omega)) (fun hc => ?_)
    (try rw [hc])
    set_option smartUnfolding false in conv => whnf
    subst hQ
    rfl
end Ir
end Go.Proofs.Ytecdcefacdodgaa
