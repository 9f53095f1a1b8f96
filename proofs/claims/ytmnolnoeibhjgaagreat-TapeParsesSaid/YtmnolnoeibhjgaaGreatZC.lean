/-
  Tape: which commands may be written. Tape: the document's check. Tape: numbers as bytes: the program's Put. Tape: texts as bytes; the document's Put. Tape: a command's bytes, as the program makes them. Tape: a command's bytes, as the document makes them; tapes of commands.
-/
import Derived.Test.YtmnolnoeibhjgaaGreatZB
set_option maxRecDepth 100000
set_option linter.unusedSimpArgs false
set_option linter.unusedVariables false
namespace Go.Proofs.YtmnolnoeibhjgaaGreat
open Go Ads
namespace Ir

structure TOp where
 k : Int
 n : Int
 s : List UInt8
 deriving DecidableEq
structure TCmd where
 k : Int
 p : Int
 t : Int
 n : Int
 m : Int
 kk : Nat
 ops : List TOp
def top (o : TOp) : AV := .agg [.int .i64 o.k, .int .i64 o.n, .str o.s]
def tops (l : List TOp) : List AV := l.map top
theorem len_tops (l : List TOp) : (tops l).length = l.length := List.length_map ..
theorem size_tops (l : List TOp) : allSize 3 (tops l) = true := allSize_map (enc := top) (fun _ => rfl) l
theorem cl_tops (l : List TOp) : clL (tops l) = true := clL_map (enc := top) (fun _ => rfl) l
theorem idx_top {l : List TOp} {j k : Nat} (hj : j < l.length) : pV (.iaddrS 3) [.fz k (tops l), .int .i64 (j : Nat)] = some (.fp (top l[j]).cells 0) := idx_map (enc := top) hj rfl
def tcm (x : TCmd) : AV := .agg [.int .i64 x.k, .int .i64 x.p, .int .i64 x.t, .int .i64 x.n, .int .i64 x.m, .fz x.kk (tops x.ops)]
def tcms (l : List TCmd) : List AV := l.map tcm
theorem len_tcms (l : List TCmd) : (tcms l).length = l.length := List.length_map ..
theorem size_tcms (l : List TCmd) : allSize 6 (tcms l) = true := allSize_map (enc := tcm) (fun _ => rfl) l
theorem cl_tcm (x : TCmd) : (tcm x).cl = true := by simp [tcm, AV.cl, clL, cl_tops]
theorem cl_tcms (l : List TCmd) : clL (tcms l) = true := clL_map (enc := tcm) cl_tcm l
theorem idx_tcm {l : List TCmd} {j k : Nat} (hj : j < l.length) : pV (.iaddrS 6) [.fz k (tcms l), .int .i64 (j : Nat)] = some (.fp (tcm l[j]).cells 0) := idx_map (enc := tcm) hj rfl

def badN (n : Int) : Bool := decide (n < 0) || decide (n > 9007199254740991)
def opE (o : TOp) : Int := if badN o.k || badN o.n then 2 else if 16 < o.s.length then 5 else 0
end Ir
end Go.Proofs.YtmnolnoeibhjgaaGreat
namespace Go.Proofs.YtmnolnoeibhjgaaGreat
open Go Ads
namespace Ads
theorem app_nB {h : Heap} {s bytes b m n : Nat} {vs cs : List AV} {x : AV} (hg : h.get b = some (.cells vs true s)) (hv : vs.length = m * s) (hsrc : srcV s h x = some (n + 1, cs)) (hf : flatL cs = true) (hb : (m + (n + 1)) * bytes ≤ 140737488355328) (hm : m + (n + 1) ≤ 140737488355328) :
  eV (.append s bytes) [.sl b 0 m m true, x] h = some (.sl h.next 0 (m + (n + 1)) (m + (n + 1)) true, (h.del b).new (.cells (vs ++ cs) true s)) := by
 have b1 : Nat.ble (m + (n + 1)) m = false := by cases hb : Nat.ble (m + (n + 1)) m with | false => rfl | true => (have := Nat.le_of_ble_eq_true hb; omega)
 have b2 : Nat.ble ((m + (n + 1)) * bytes) 140737488355328 = true := Nat.ble_eq_true_of_le hb
 have b3 : Nat.ble (m + (n + 1)) 9223372036854775807 = true := Nat.ble_eq_true_of_le (by omega)
 have b4 : Nat.ble (0 + m * s) vs.length = true := Nat.ble_eq_true_of_le (by omega)
 have b5 : Nat.beq vs.length (0 + m * s) = true := by rw [hv, Nat.zero_add]; exact Nat.beq_refl _
 have hld : h.loadN b 0 (m * s) = some vs := by
  simp only [Heap.loadN, Heap.row, hg, b4, cond_true, List.drop_zero]
  rw [← hv, List.take_length]
 simp only [eV, l2, hsrc]
 show cond (flatL cs) _ _ = _
 rw [hf, cond_true]
 show cond (Nat.beq (n + 1) 0 && Nat.ble m m) _ _ = _
 rw [show Nat.beq (n + 1) 0 = false from rfl, Bool.false_and, cond_false, b1, cond_false, b2, b3, Bool.and_self, cond_true, hg, hld]
 show cond true (cond (true && Nat.beq vs.length (0 + m * s) && Nat.beq m m && Nat.beq s s) _ _) _ = _
 rw [b5, Nat.beq_refl, Nat.beq_refl]
 rfl
theorem GR.appN {s bytes lo : Nat} {h : Heap} {v x : AV} {M X : List AV} (hr : GR s lo h v M) (hlo : lo ≤ h.next) (hsrc : srcV s h x = some (X.length, flatCells X)) (hf : flatL (flatCells X) = true) (hs : allSize s M = true) (hl : (M.length + X.length) * bytes ≤ 140737488355328) (hm : M.length + X.length ≤ 140737488355328) :
  ∃ v' g', eV (.append s bytes) [v, x] h = some (v', g') ∧ GR s lo g' v' (M ++ X) ∧ h.next ≤ g'.next ∧ ∀ c, c < lo → g'.get c = h.get c := by
 rcases hr with ⟨rfl, rfl⟩ | ⟨hne0, b, h1, h2, rfl, h4⟩
 ·have := app_nilsG (bytes := bytes) hsrc hf (by simpa using hl) (by simpa using hm)
  by_cases hz : X.length = 0
  ·rw [if_pos hz] at this
   have hX : X = [] := List.eq_nil_of_length_eq_zero hz
   subst hX
   exact ⟨_, _, this, .inl ⟨rfl, rfl⟩, Nat.le_refl _, fun c _ => rfl⟩
  ·rw [if_neg hz] at this
   exact ⟨_, _, this, .inr ⟨fun h => hz (by rw [List.nil_append] at h; rw [h]; rfl), h.next, hlo, Nat.lt_succ_self _, rfl, get_new_same⟩, Nat.le_succ _, fun c hc => get_new_ne (by omega)⟩
 ·cases X with
  | nil =>
   refine ⟨.sl b 0 M.length M.length true, h, ?_, .inr ⟨by simpa using hne0, b, h1, h2, by simp, by simpa using h4⟩, Nat.le_refl _, fun c _ => rfl⟩
   have hsrc' : srcV s h x = some (0, flatCells []) := hsrc
   simp only [eV, l2, hsrc']
   show cond (flatL (flatCells [])) (cond (Nat.beq 0 0 && Nat.ble M.length M.length) _ _) _ = _
   rw [hf, Nat.ble_eq_true_of_le (Nat.le_refl _)]
   rfl
  | cons y X =>
   refine ⟨_, _, app_nB (n := X.length) h4 (flat_size hs) hsrc hf hl hm, .inr ⟨by simp, h.next, hlo, Nat.lt_succ_self _, by rw [List.length_append]; rfl, ?_⟩, Nat.le_succ _, fun c hc => ?_⟩
   ·have := get_new_same (h := h.del b) (x := .cells (flatCells M ++ flatCells (y :: X)) true s)
    rw [show (h.del b).next = h.next from rfl] at this
    rw [this, flat_app]
   ·have hne : c ≠ b := by omega
    exact (get_new_ne (h := h.del b) (show c < h.next by omega)).trans (get_del_ne2 hne)
theorem Frz.mono {P P' : Nat → Prop} (hp : ∀ b, P b → P' b) {g : Heap} {v v' : AV} (h : Frz P g v v') : Frz P' g v v' := by
 induction h with
 | clean h => exact .clean h
 | agg h _ ih => exact .agg h ih
 | tup h _ ih => exact .tup h ih
 | iface _ ih => exact .iface ih
 | nils => exact .nils
 | func h _ h' _ ih ih' => exact .func h ih h' ih'
 | ptr hb hg ho hl _ ih => exact .ptr (hp _ hb) hg ho hl ih
 | sl hb hg hs hn hl hc hk h1 h2 _ ih => exact .sl (hp _ hb) hg hs hn hl hc hk h1 h2 ih
theorem Fr.app {h0 h g : Heap} (fr : Fr h0 h []) (hn : h.next ≤ g.next) (hk : ∀ c, c < h0.next → g.get c = h.get c) : Fr h0 g [] := ⟨Nat.le_trans fr.next hn, fun c hc hb => (hk c hc).trans (fr.keep c hc hb)⟩
end Ads
namespace Ir

def bys (l : List Int) : List AV := l.map (AV.int .u8)
theorem len_bys (l : List Int) : (bys l).length = l.length := List.length_map ..
theorem size_bys (l : List Int) : allSize 1 (bys l) = true := allSize_map (enc := AV.int .u8) (fun _ => rfl) l
theorem cl_bys (l : List Int) : clL (bys l) = true := clL_map (enc := AV.int .u8) (fun _ => rfl) l
theorem app_bys (l m : List Int) : bys (l ++ m) = bys l ++ bys m := List.map_append ..
theorem flat_bys (l : List Int) : flatCells (bys l) = bys l := by
 induction l with
 | nil => rfl
 | cons x l ih =>
  show AV.cells (.int .u8 x) ++ flatCells (bys l) = _
  rw [ih]
  rfl
theorem flatL_bys : ∀ l : List Int, flatL (bys l) = true
 | [] => rfl
 | x :: l => by simp only [bys, List.map_cons, flatL, AV.flat, cond_true]; exact flatL_bys l
abbrev w8 (n : Int) : Int := IntKind.u8.wrap n
def hi8 (n : Int) (i : Nat) : List Int := (List.range' i (8 - i)).map fun i => w8 ((n - 254).fdiv (2 ^ (56 - 8 * i)))
def put1 (n : Int) : List Int := if n < 255 then [w8 n] else 255 :: hi8 n 0
def puts (l : List Int) : List Int := l.flatMap put1
abbrev BR (lo : Nat) (h : Heap) (v : AV) (M : List Int) : Prop := GR 1 lo h v (bys M)
theorem BR.put {lo : Nat} {h : Heap} {v : AV} {M : List Int} (hr : BR lo h v M) (hlo : lo ≤ h.next) (hm : M.length ≤ 1000000000) (x : Int) :
  ∃ v' g', eV (.append 1 1) [v, .sl h.next 0 1 1 false] (h.new (.cells [.int .u8 x] true 0)) = some (v', g') ∧ BR lo g' v' (M ++ [x]) ∧ h.next ≤ g'.next ∧ ∀ c, c < lo → g'.get c = h.get c := by
 have := GR.app (bytes := 1) hr hlo (x := .int .u8 x) rfl rfl (size_bys M) (by rw [len_bys]; omega) (by rw [len_bys]; omega)
 rw [show bys M ++ [AV.int .u8 x] = bys (M ++ [x]) from (app_bys M [x]).symm] at this
 exact this

def OwnB (v : AV) (d : Nat) : Prop := ∃ o n c p, v = .sl d o n c p
theorem BR.own {lo : Nat} {h : Heap} {v : AV} {M : List Int} (hr : BR lo h v M) {d : Nat} (ho : OwnB v d) : lo ≤ d ∧ d < h.next := by
 obtain ⟨o, n, c, p, rfl⟩ := ho
 rcases hr with ⟨_, h⟩ | ⟨_, b, h1, h2, h3, _⟩
 ·simp at h
 ·simp only [AV.sl.injEq] at h3
  obtain ⟨rfl, _⟩ := h3
  exact ⟨h1, h2⟩
theorem BR.row {lo : Nat} {h : Heap} {v x : AV} {M X : List Int} (hr : BR lo h v M) (hlo : lo ≤ h.next) (hx : srcV 1 h x = some (X.length, bys X)) (hm : M.length + X.length ≤ 1000000000) :
  ∃ v' g', eV (.append 1 1) [v, x] h = some (v', g') ∧ BR lo g' v' (M ++ X) ∧ h.next ≤ g'.next ∧ ∀ c, c < lo → g'.get c = h.get c := by
 have := GR.appN (bytes := 1) (X := bys X) hr hlo (by rw [len_bys, flat_bys]; exact hx) (by rw [flat_bys]; exact flatL_bys _) (size_bys M) (by rw [len_bys, len_bys]; omega) (by rw [len_bys, len_bys]; omega)
 rw [← app_bys] at this
 exact this
theorem BR.src {lo : Nat} {h : Heap} {v : AV} {M : List Int} (hr : BR lo h v M) : srcV 1 h v = some (M.length, bys M) := by
 rcases hr with ⟨h1, rfl⟩ | ⟨hne, b, h1, h2, rfl, h4⟩
 ·have : M = [] := by cases M with | nil => rfl | cons x r => simp [bys] at h1
  subst this
  rfl
 ·rw [len_bys] at *
  rw [flat_bys] at h4
  exact src_nv h4 (by rw [len_bys, Nat.mul_one])
theorem BR.new {lo : Nat} {h : Heap} {v : AV} {M : List Int} {x : Blk} (hr : BR lo h v M) : BR lo (h.new x) v M := by
 rcases hr with hr | ⟨hne0, b, h1, h2, h3, h4⟩
 ·exact .inl hr
 ·exact .inr ⟨hne0, b, h1, Nat.lt_succ_of_lt h2, h3, by rw [get_new_ne h2]; exact h4⟩

theorem cpy_c {k : Nat} (b : List Int) (hsz : b.length ≤ 1000000) {h : Heap} {Q : AV → Heap → Prop} (hQ : ∀ v h', BR h.next h' v b → Fr h h' [] → Q v h') : VD fs ms f_escapementref00_CopyBytes [.fz k (bys b)] h Q := by
 refine vd_start (af := C_escapementref00_CopyBytes) true rfl (yB rfl) ?_
 set_option smartUnfolding false in conv => whnf
 obtain ⟨v', g', ha, hr', fr'⟩ := GR.copy (s := 1) (bytes := 1) (lo := h.next) (k := k) (h := h) (M := bys b) (Nat.le_refl _) (size_bys b) (by rw [flat_bys]; exact flatL_bys _) (by rw [len_bys]; omega) (by rw [len_bys]; omega)
 refine ⟨_, _, ha, ?_⟩
 set_option smartUnfolding false in conv => whnf
 exact hQ v' g' hr' fr'

theorem opt_go {α : Type} {x : Option α} {v : α} {f : α → Prop} (hx : x = some v) (hf : f v) : @Option.rec α (fun _ => Prop) False f x := by
 subst hx; exact hf
theorem res_cell {e : Env} {h : Heap} {a b o es : Nat} {wr : Bool} {vs : List AV} {w : AV} (ha : Tr.get e a = some (.ptr b o)) (hg : h.get b = some (.cells vs wr es)) (hv : vs[o]? = some w) : resAllV e h [.cell a 1 false] = some [w] := by
 have : h.load1 b o = some w := by simp only [Heap.load1, Heap.row, hg, hv]
 simp only [resAllV, resOfV, ha, cond_false, this]
def nums (x : TCmd) : List Int := [x.k, x.p, x.t, x.n, x.m]
structure Good (x : TCmd) : Prop where
 hn : ∀ n ∈ nums x, badN n = false
 hl : x.ops.length ≤ 32
 ho : ∀ o ∈ x.ops, badN o.k = false ∧ badN o.n = false ∧ o.s.length ≤ 16
theorem idx_ptrs {A j : Nat} (hj : j < 5) : pV (.idxA 1 5 false) [.agg [.ptr A 0, .ptr A 1, .ptr A 2, .ptr A 3, .ptr A 4], .int .i64 (j : Nat)] = some (.ptr A j) := by
 match j, hj with
 | 0, _ => rfl
 | 1, _ => rfl
 | 2, _ => rfl
 | 3, _ => rfl
 | 4, _ => rfl
theorem BR.cell {lo : Nat} {h : Heap} {v : AV} {M : List Int} (hr : BR lo h v M) : v.cells.length = 1 ∧ flatL v.cells = true := by
 rcases hr with ⟨_, rfl⟩ | ⟨_, b, _, _, rfl, _⟩
 ·exact ⟨rfl, rfl⟩
 ·exact ⟨rfl, rfl⟩
theorem BR.cells {lo : Nat} {h : Heap} {v : AV} {M : List Int} (hr : BR lo h v M) : v.cells = [v] := by
 rcases hr with ⟨_, rfl⟩ | ⟨_, b, _, _, rfl, _⟩
 ·rfl
 ·rfl
def entE (A : Nat) : Env := ek 3 [(1, .ptr A 0), (2, .ptr (A + 1) 0), (6, .func (.func f_tape_fields_1) [] [.ptr (A + 2) 0])]
structure EntS (h0 : Heap) (x : TCmd) (j : Nat) (h : Heap) : Prop where
 fr : Fr h0 h []
 hA : h.get h0.next = some (.cells (tcm x).cells true 0)
 hB : ∃ v, h.get (h0.next + 1) = some (.cells [v] true 0) ∧ BR (h0.next + 4) h v (puts ((nums x).take j))
 hC : h.get (h0.next + 2) = some (.cells [.ptr h0.next 0] true 0)
 hL : h.get (h0.next + 3) = some (.loop 0 none (entE h0.next) [7] L_tape_entry_0a L_tape_entry_0b)
 nx : h0.next + 4 ≤ h.next
theorem fields_c {A : Nat} {h : Heap} {Q : AV → Heap → Prop} (hQ : Q (.func (.func f_tape_fields_1) [] [.ptr h.next 0]) (h.new (.cells [.ptr A 0] true 0))) : VD fs ms f_tape_fields [.ptr A 0] h Q := by
 refine vd_start (af := C_tape_fields) true rfl (yB rfl) ?_
 set_option smartUnfolding false in conv => whnf
 exact hQ
structure EntT (h0 : Heap) (x : TCmd) (L : List Int) (h : Heap) : Prop where
 fr : Fr h0 h []
 hA : h.get h0.next = some (.cells (tcm x).cells true 0)
 hB : ∃ v, h.get (h0.next + 1) = some (.cells [v] true 0) ∧ BR (h0.next + 4) h v L
 nx : h0.next + 4 ≤ h.next
structure EntR (h0 : Heap) (x : TCmd) (L : List Int) (h : Heap) (v : AV) : Prop where
 fr : Fr h0 h []
 hA : h.get h0.next = some (.cells (tcm x).cells true 0)
 hr : BR (h0.next + 1) h v L
 nx : h0.next + 1 ≤ h.next
theorem res_two {e : Env} {h : Heap} {a b : Nat} {v w : AV} (ha : Tr.get e a = some v) (hb : Tr.get e b = some w) : resAllV e h [.tmp a, .tmp b] = some [v, w] := by
 simp only [resAllV, resOfV, ha, hb]
/- Tapes. -/
def bytS (L : List Int) : List UInt8 := L.map fun n => UInt8.ofNat n.toNat
theorem strBytes_bys : ∀ L : List Int, strBytes (bys L) = some (bytS L)
 | [] => rfl
 | n :: L => by
  have := strBytes_bys L
  simp only [bys, List.map_cons, strBytes, bytS] at this ⊢
  rw [this]
  rfl
theorem BR.str {lo : Nat} {h : Heap} {v : AV} {M : List Int} (hr : BR lo h v M) : rV .toStr [v] h = some (.str (bytS M)) := by
 rcases hr with ⟨h1, rfl⟩ | ⟨hne, b, h1, h2, rfl, h4⟩
 ·have : M = [] := by cases M with | nil => rfl | cons x r => simp [bys] at h1
  subst this
  rfl
 ·rw [flat_bys] at h4
  have hl : h.loadN b 0 (bys M).length = some (bys M) := by
   rw [loadN_some h4 (by omega)]
   simp
  show rI .toStr [.sl b 0 (bys M).length (bys M).length true] h = _
  simp only [rI, hl, strBytes_bys, Option.map_some]
end Ir
end Go.Proofs.YtmnolnoeibhjgaaGreat
