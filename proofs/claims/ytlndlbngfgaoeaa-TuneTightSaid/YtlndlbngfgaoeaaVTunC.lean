/-
  Tune: the need.
-/
import Derived.Test.YtlndlbngfgaoeaaVTunB
set_option maxRecDepth 100000
set_option linter.unusedSimpArgs false
set_option linter.unusedVariables false
namespace Go.Proofs.Ytlndlbngfgaoeaa
open Go Ads
namespace Ir

def setPer (l : List Pt) (i : Nat) (p : Int) : List Pt := match l[i]? with
 | some x => l.set i ⟨p, x.bud, x.k, x.ts⟩
 | none => l
theorem setPer_eq {l : List Pt} {i : Nat} (h : i < l.length) (p : Int) : setPer l i p = l.set i ⟨p, l[i].bud, l[i].k, l[i].ts⟩ := by rw [setPer, List.getElem?_eq_getElem h]
theorem flat_pts : ∀ l : List Pt, flatL (flatCells (pts l)) = true
 | [] => rfl
 | x :: l => by
  show flatL (.int .i64 x.per :: .int .i64 x.bud :: .fz x.k (tks x.ts) :: flatCells (pts l)) = true
  simp only [flatL, AV.flat, cond_true]
  exact flat_pts l
theorem set_per : ∀ (l : List Pt) (i : Nat) (h : i < l.length) (p : Int), (flatCells (pts l)).set (i * 3) (.int .i64 p) = flatCells (pts (l.set i ⟨p, l[i].bud, l[i].k, l[i].ts⟩))
 | x :: l, 0, _, b => rfl
 | x :: l, i + 1, h, b => by
  have ih := set_per l i (by simpa using h) b
  show (AV.int .i64 x.per :: .int .i64 x.bud :: .fz x.k (tks x.ts) :: flatCells (pts l)).set ((i + 1) * 3) (.int .i64 b) = AV.int .i64 x.per :: .int .i64 x.bud :: .fz x.k (tks x.ts) :: flatCells (pts (l.set i _))
  rw [show (i + 1) * 3 = (i * 3) + 1 + 1 + 1 by omega, List.set_cons_succ, List.set_cons_succ, List.set_cons_succ, ih]
  rfl
theorem splice_per {l : List Pt} {i : Nat} (h : i < l.length) (p : Int) : Heap.splice (flatCells (pts l)) (i * 3) [.int .i64 p] = flatCells (pts (setPer l i p)) := by
 rw [splice_at _ _ _ (by rw [flat_size (size_pts l), len_pts]; omega), set_per l i h p, setPer_eq h]
theorem setB_setB {l : List Pt} {i : Nat} (h : i < l.length) (a b : Int) : setB (setB l i a) i b = setB l i b := by
 rw [setB_eq h a, setB_eq h b, setB, List.getElem?_set_self h]
 simp only [List.set_set]

def enough (M : List Pt) (i : Nat) (b : Nat) : Bool := (testS (setB M i (b : Nat)) (i : Nat)).2 == 0

def needH (i n : Nat) (C : List AV) : Heap := H3 (some (.cells [.int .i64 (i : Nat)] true 0)) (some (.cells C true 3)) (some (.cells [.sl 1 0 n n true] true 0))

theorem enough_v (M : List Pt) (i n : Nat) (b : Nat) (c : Int) (hi : i < M.length) (hn : M.length = n) (hs : Small M) : VD fs ms f_tune_need_1 [.int .i64 (b : Nat), .ptr 2 0, .ptr 0 0] (needH i n (flatCells (pts (setB M i c)))) (fun v g => v = .bool (enough M i b) ∧ g = needH i n (flatCells (pts (setB M i (b : Nat))))) := by
 refine vd_start (af := C_tune_need_1) false rfl (Nat.le_of_ble_eq_true rfl) ?_
 generalize hQ : (fun (v : AV) (g : Heap) => v = .bool (enough M i b) ∧ g = needH i n (flatCells (pts (setB M i (b : Nat))))) = Q
 have hl := setB_len hi c
 have hlb := setB_len hi (b : Nat)
 have hsp : Heap.splice (flatCells (pts (setB M i c))) (i * 3 + 1) [.int .i64 (b : Nat)] = flatCells (pts (setB M i (b : Nat))) := by rw [splice_bud (by omega), setB_setB hi]
 have hlen : (flatCells (pts (setB M i c))).length = n * 3 := by rw [flat_size (size_pts _), len_pts, hl, hn]
 have hsm : Small (setB M i (b : Nat)) := by
  refine ⟨by rw [hlb]; exact hs.1, fun x hx => ?_⟩
  rw [setB_eq hi] at hx
  rcases List.mem_or_eq_of_mem_set hx with h1 | h1
  ·exact hs.2 x h1
  ·rw [h1]; exact hs.2 M[i] (List.getElem_mem hi)
 have ht := ltest_c 0 (setB M i (b : Nat)) (i : Nat) hsm
 have hen : enough M i b = ((testS (setB M i (b : Nat)) (i : Nat)).2 == 0) := rfl
 generalize flatCells (pts (setB M i c)) = C at *
 show startF _ _ fun e => vpC fs ms 3 false false _ e ⟨3, .node (.node .nil (some (.cells C true 3)) .nil) (some (.cells [.int .i64 (i : Nat)] true 0)) (.node .nil (some (.cells [.sl 1 0 n n true] true 0)) .nil)⟩ _
 conv => whnf
 refine ⟨_, idx_slS (by omega), ?_⟩
 conv => whnf
 refine brT (by show (Nat.ble (i * 3 + 1 + 1) C.length && true) = true; rw [hlen, Bool.and_true]; exact Nat.ble_eq_true_of_le (by omega)) ?_
 conv => whnf
 refine vd_view ht rfl (.cons (frz_open (s := 3) trivial rfl hsp (size_pts _) (by rw [len_pts, hlb, hn]) (cl_pts _)) (.cons (.clean rfl) .nil)) ?_
 generalize testS (setB M i (b : Nat)) (i : Nat) = T at *
 obtain ⟨T1, T2⟩ := T
 conv => whnf
 subst hQ
 refine ⟨?_, ?_⟩
 ·rw [hen]
 ·rw [← hsp]; rfl

def needS (l : List Pt) (i : Nat) (p : Int) : Int := match firstBad (enough (setPer l i p) i) 1 (min p 64).toNat with
 | some b => ((b : Nat) : Int)
 | none => 0
theorem setB_self {l : List Pt} {i : Nat} (h : i < l.length) : setB l i l[i].bud = l := by
 rw [setB_eq h]
 exact List.set_getElem_self h
def budC (M : List Pt) (i : Nat) (h : i < M.length) : Nat → Int
 | 0 => M[i].bud
 | j + 1 => ((j + 1 : Nat) : Int)
def needE (mn : Nat) (j : Nat) : List (Nat × AV) := [(8, .func (.func f_tune_need_1) [] [.ptr 2 0, .ptr 0 0]), (19, .int .i64 (mn : Nat)), (20, .int .i64 ((j : Nat) : Int))]

theorem ren_need {mn j i n : Nat} {C : List AV} {e1 : Env} {h1 : Heap} {p : Nat → Nat} (hcl : clL C = true) (p0 : p 0 ≠ p 1) (p1 : p 0 ≠ p 2) (p2 : p 1 ≠ p 2)
  (e8 : Tr.get e1 8 = some (.func (.func f_tune_need_1) [] [.ptr (p 2) 0, .ptr (p 0) 0])) (e19 : Tr.get e1 19 = some (.int .i64 (mn : Nat))) (e20 : Tr.get e1 20 = some (.int .i64 ((j : Nat) : Int)))
  (g0 : h1.get (p 0) = some (.cells [.int .i64 (i : Nat)] true 0)) (g1 : h1.get (p 1) = some (.cells C true 3)) (g2 : h1.get (p 2) = some (.cells [.sl (p 1) 0 n n true] true 0)) : GC 0 p e1 h1 (ek 5 (needE mn j)) (needH i n C) := by
 refine gc3 p ?_ (one_blk ⟨_, g0, renB_cl rfl rfl⟩) (one_blk ⟨_, g1, renB_cl rfl hcl⟩) (one_blk ⟨_, g2, ?_⟩) p0 p1 p2 (by intro b hb; omega) (by omega)
 ·refine ⟨⟨_, e8, .func rfl (fun i x y hx => by simp at hx) rfl ?_⟩, ⟨_, e19, .cl rfl⟩, ⟨_, e20, .cl rfl⟩, trivial⟩
  intro a x y hx hy
  match a, hx, hy with
  | 0, hx, hy => cases hx; cases hy; exact .ptr (by omega)
  | 1, hx, hy => cases hx; cases hy; exact .ptr (by omega)
 ·refine .cells rfl fun a x y hx hy => ?_
  match a, hx, hy with
  | 0, hx, hy => cases hx; cases hy; exact .sl (by omega)

theorem need_c (k : Nat) (l : List Pt) (i : Nat) (p : Int) (hs : Small l) (hi : i < l.length) (hk : Nat.beq k 3 = false) (hl : l.length ≤ 1000) (hp : 1 ≤ p) : PC fs ms f_tune_need [.fz k (pts l), .int .i64 (i : Nat), .int .i64 p] (.int .i64 (needS l i p)) := by
 refine pc_of (by simp [clL, AV.cl, cl_pts]) rfl ?_
 refine vd_start (af := C_tune_need) false rfl (Nat.le_of_ble_eq_true rfl) ?_
 generalize hQ : (fun (v : AV) (_ : Heap) => v = .int .i64 (needS l i p)) = Q
 obtain ⟨n, hn⟩ : ∃ n, l.length = n + 1 := ⟨l.length - 1, by omega⟩
 have hsp := splice_per hi p
 have hMl : (setPer l i p).length = n + 1 := by rw [setPer_eq hi]; simpa using hn
 have hMs : Small (setPer l i p) := by
  refine ⟨by omega, fun x hx => ?_⟩
  rw [setPer_eq hi] at hx
  rcases List.mem_or_eq_of_mem_set hx with h1 | h1
  ·exact hs.2 x h1
  ·rw [h1]; exact hs.2 l[i] (List.getElem_mem hi)
 have hS : needS l i p = match firstBad (enough (setPer l i p) i) 1 (min p 64).toNat with | some b => ((b : Nat) : Int) | none => 0 := rfl
 have hlenC : (flatCells (pts l)).length = (n + 1) * 3 := by rw [flat_size (size_pts _), len_pts, hn]
 generalize hM : setPer l i p = M at *
 have hiM : i < M.length := by omega
 conv => whnf
 refine vd_start (af := C_slices_Clone_api_Part_api_Part) false rfl (Nat.le_of_ble_eq_true rfl) ?_
 conv => whnf
 refine brf (hk) (fun hc => ?_)
 (try rw [hc])
 conv => whnf
 refine ⟨_, _, app_lit (s := 3) (bytes := 40) (n := n) rfl (by omega) (by omega) ((src_fz (k := k) (size_pts l)).trans (by rw [len_pts, hn])) (flat_pts l), ?_⟩
 conv => whnf
 refine ⟨_, idx_slS (by omega), ?_⟩
 conv => whnf
 refine brT (by show (Nat.ble (i * 3 + 0 + 1) (flatCells (pts l)).length && true) = true; rw [hlenC, Bool.and_true]; exact Nat.ble_eq_true_of_le (by omega)) ?_
 conv => whnf
 have hmn : (bif decide (64 < p) then (64 : Int) else p) = (((min p 64).toNat : Nat) : Int) := by
  by_cases h6 : 64 < p
  ·rw [decide_eq_true h6, cond_true]; omega
  ·rw [decide_eq_false h6, cond_false]; omega
 rw [hmn]
 have hm64 : (min p 64).toNat ≤ 64 := by omega
 generalize (min p 64).toNat = mN at *
 refine vc_gc (ren_need (C := flatCells (pts (setB M i (budC M i hiM 0)))) (mn := mN) (j := 0) (i := i) (n := n + 1) (p := fun b => bif Nat.beq b 1 then 2 else bif Nat.beq b 2 then 3 else b) (flat_cl (cl_pts _)) (by decide) (by decide) (by decide) rfl rfl rfl rfl (by rw [show budC M i hiM 0 = M[i].bud from rfl, setB_self hiM, ← hsp]; rfl) rfl) ?_
 have hbody : ∀ (K : AX → Env → Heap → Prop) j, j < mN → (enough M i (j + 1) = false → ∀ e1 h1 p, GC 0 p e1 h1 (ek 5 (needE mN (j + 1))) (needH i (n + 1) (flatCells (pts (setB M i (budC M i hiM (j + 1)))))) → K .normal e1 h1) → (enough M i (j + 1) = true → ∀ e1 h1, Tr.get e1 6 = some (.int .i64 ((j + 1 : Nat) : Int)) → K .ret e1 h1) →
   vpC fs ms 0 false false L_tune_need_0 (ek 5 (needE mN j)) (needH i (n + 1) (flatCells (pts (setB M i (budC M i hiM j))))) K := by
  intro K j hj k1 k2
  show vpC fs ms 0 false false _ (ek 5 [(8, .func (.func f_tune_need_1) [] [.ptr 2 0, .ptr 0 0]), (19, .int .i64 (mN : Nat)), (20, .int .i64 ((j : Nat) : Int))]) _ _
  conv => whnf
  refine brt (by simp; omega) (fun hc => ?_)
  (try rw [hc])
  conv => whnf
  rw [inc_val (by omega)]
  refine VD.mono (enough_v M i (n + 1) (j + 1) (budC M i hiM j) hiM hMl hMs) fun v g hv => ?_
  obtain ⟨rfl, rfl⟩ := hv
  cases he : enough M i (j + 1) with
  | true =>
   conv => whnf
   exact k2 he _ _ (inc_slot (by omega))
  | false =>
   conv => whnf
   exact k1 he _ _ id (ren_need (flat_cl (cl_pts _)) (by decide) (by decide) (by decide) rfl rfl (inc_slot (by omega)) rfl rfl rfl)
 cases hfb : firstBad (enough M i) 1 mN with
 | none =>
  rw [hfb] at hS
  have hno := firstBad_none hfb
  refine for_rowL 0 5 mN (fun _ => True) (needE mN) (fun j => needH i (n + 1) (flatCells (pts (setB M i (budC M i hiM j))))) (fun j hj _ => hbody _ j hj (fun _ e1 h1 p hg => ⟨trivial, p, hg⟩) (fun he => by have := hno j hj; rw [Nat.add_comm] at this; rw [this] at he; cases he)) (fun _ => ?_) trivial
  refine vc_loop (z := false) ?_
  show vpC fs ms 0 false false _ (ek 5 [(8, .func (.func f_tune_need_1) [] [.ptr 2 0, .ptr 0 0]), (19, .int .i64 (mN : Nat)), (20, .int .i64 ((mN : Nat) : Int))]) _ _
  conv => whnf
  refine brf (by simp) (fun hc => ?_)
  (try rw [hc])
  conv => whnf
  subst hQ
  rw [hS]
 | some u =>
  rw [hfb] at hS
  obtain ⟨u1, u2, u3, u4⟩ := firstBad_some hfb
  refine for_rowL 0 5 (u - 1) (fun _ => True) (needE mN) (fun j => needH i (n + 1) (flatCells (pts (setB M i (budC M i hiM j))))) (fun j hj _ => hbody _ j (by omega) (fun _ e1 h1 p hg => ⟨trivial, p, hg⟩) (fun he => by rw [u4 (j + 1) (by omega) (by omega)] at he; cases he)) (fun _ => ?_) trivial
  refine vc_loop (z := false) (hbody _ (u - 1) (by omega) (fun he => by rw [show u - 1 + 1 = u by omega, u3] at he; cases he) (fun _ e1 h1 h6 => ?_))
  rw [show u - 1 + 1 = u by omega] at h6
  show endV C_tune_need.results Q .ret e1 h1
  subst hQ
  have hr : resAllV e1 h1 C_tune_need.results = some [.int .i64 (u : Nat)] := by
   show (match Tr.get e1 6, (some [] : Option (List AV)) with | some v, some vs => some (v :: vs) | _, _ => none) = _
   rw [h6]
  simp only [endV, hr]
  rw [hS]
end Ir
end Go.Proofs.Ytlndlbngfgaoeaa
