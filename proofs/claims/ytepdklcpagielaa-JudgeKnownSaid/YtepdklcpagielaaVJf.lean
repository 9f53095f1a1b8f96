/-
  Judge: what is known of a system, as a block's cells. Judge: reading the records; who could run. Judge: must; a tick goes by. Judge: ticks go by; which notes may be. Judge: is what must be there there? Judge: when a task's job does something. Judge: who has what is global. Judge: a partition joins, is gone, changes. Judge: what a task's job does. Judge: a note.
-/
import Derived.Test.YtepdklcpagielaaVJdB
import Derived.Test.YtepdklcpagielaaVDel
import Derived.Test.YtepdklcpagielaaVsP
import Derived.Test.YtepdklcpagielaaVsG
set_option maxRecDepth 100000
set_option linter.unusedSimpArgs false
set_option linter.unusedVariables false
namespace Go.Proofs.Ytepdklcpagielaa
open Go Ads
namespace Ir

structure Jb where
 is : Bool
 tm : Int
 ran : Int
 nx : Int
structure Pr where
 inn : Bool
 per : Int
 bud : Int
 ends : Int
 ran : Int
 j0 : Jb
 j1 : Jb
 j2 : Jb
 j3 : Jb
 has : Bool
 task : Int
def jbc (j : Jb) : List AV := [.bool j.is, .int .i64 j.tm, .int .i64 j.ran, .int .i64 j.nx]
def prc (p : Pr) : List AV := [.bool p.inn, .int .i64 p.per, .int .i64 p.bud, .int .i64 p.ends, .int .i64 p.ran,
 .bool p.j0.is, .int .i64 p.j0.tm, .int .i64 p.j0.ran, .int .i64 p.j0.nx,
 .bool p.j1.is, .int .i64 p.j1.tm, .int .i64 p.j1.ran, .int .i64 p.j1.nx,
 .bool p.j2.is, .int .i64 p.j2.tm, .int .i64 p.j2.ran, .int .i64 p.j2.nx,
 .bool p.j3.is, .int .i64 p.j3.tm, .int .i64 p.j3.ran, .int .i64 p.j3.nx, .bool p.has, .int .i64 p.task]
def Pr.job (p : Pr) : Nat → Jb
 | 0 => p.j0
 | 1 => p.j1
 | 2 => p.j2
 | _ => p.j3
def Pr.setJob (p : Pr) (i : Nat) (j : Jb) : Pr := match i with
 | 0 => { p with j0 := j }
 | 1 => { p with j1 := j }
 | 2 => { p with j2 := j }
 | _ => { p with j3 := j }
def prs (ps : List Pr) : List AV := ps.flatMap prc
theorem prc_len (p : Pr) : (prc p).length = 23 := rfl
theorem prs_len (ps : List Pr) : (prs ps).length = ps.length * 23 := by
 induction ps with
 | nil => rfl
 | cons p ps ih =>
  show (prc p ++ prs ps).length = _
  rw [List.length_append, ih, prc_len, List.length_cons]
  omega
theorem prs_get : ∀ {ps : List Pr} {i f : Nat} (hi : i < ps.length), f < 23 → ∀ tl : List AV, (prs ps ++ tl)[i * 23 + f]? = (prc ps[i])[f]?
 | p :: ps, 0, f, hi, hf, tl => by
  show (prc p ++ prs ps ++ tl)[0 * 23 + f]? = (prc p)[f]?
  rw [Nat.zero_mul, Nat.zero_add, List.append_assoc, List.getElem?_append_left (by rw [prc_len]; exact hf)]
 | p :: ps, i + 1, f, hi, hf, tl => by
  have := prs_get (ps := ps) (i := i) (f := f) (by simpa using hi) hf tl
  show (prc p ++ prs ps ++ tl)[(i + 1) * 23 + f]? = _
  rw [List.append_assoc, List.getElem?_append_right (by rw [prc_len]; omega), prc_len, show (i + 1) * 23 + f - 23 = i * 23 + f by omega, this]
  rfl
theorem prs_drop : ∀ {ps : List Pr} {i : Nat} (hi : i < ps.length) (tl : List AV), ((prs ps ++ tl).drop (i * 23)).take 23 = prc ps[i]
 | p :: ps, 0, hi, tl => by
  show ((prc p ++ prs ps ++ tl).drop (0 * 23)).take 23 = prc p
  rw [Nat.zero_mul, List.drop_zero, List.append_assoc, List.take_append_of_le_length (Nat.le_of_eq (prc_len p).symm), List.take_of_length_le (Nat.le_of_eq (prc_len p))]
 | p :: ps, i + 1, hi, tl => by
  have := prs_drop (ps := ps) (i := i) (by simpa using hi) tl
  show ((prc p ++ prs ps ++ tl).drop ((i + 1) * 23)).take 23 = _
  rw [List.append_assoc, show (i + 1) * 23 = 23 + i * 23 by omega, ← List.drop_drop]
  show ((prs ps ++ tl).drop (i * 23)).take 23 = _
  rw [this]
  rfl
theorem splice_in {α : Type} : ∀ (x : List α) (o : Nat) (v : List α) (y : List α), o + v.length ≤ x.length → Heap.splice (x ++ y) o v = Heap.splice x o v ++ y
 | x, 0, [], y, h => by rw [splice_nil, splice_nil]
 | [], o + 1, [], y, h => by rw [splice_nil, splice_nil]
 | a :: x, o + 1, [], y, h => by rw [splice_nil, splice_nil]
 | [], 0, _ :: _, y, h => by simp at h
 | [], o + 1, _ :: _, y, h => by simp at h
 | a :: x, 0, b :: v, y, h => by
  show b :: Heap.splice (x ++ y) 0 v = _
  rw [splice_in x 0 v y (by simp at h ⊢; omega)]
  rfl
 | a :: x, o + 1, b :: v, y, h => by
  show a :: Heap.splice (x ++ y) o (b :: v) = _
  rw [splice_in x o (b :: v) y (by simp at h ⊢; omega)]
  rfl
theorem splice_past {α : Type} : ∀ (x : List α) (o : Nat) (v : List α) (y : List α), Heap.splice (x ++ y) (x.length + o) v = x ++ Heap.splice y o v
 | [], o, v, y => by simp
 | a :: x, o, [], y => by rw [splice_nil, splice_nil]
 | a :: x, o, b :: v, y => by
  have := splice_past x o (b :: v) y
  rw [List.length_cons, show x.length + 1 + o = x.length + o + 1 by omega]
  show a :: Heap.splice (x ++ y) (x.length + o) (b :: v) = _
  rw [this]
  rfl
theorem prs_set : ∀ {ps : List Pr} {i f : Nat} (hi : i < ps.length) (v : List AV) (p' : Pr), f + v.length ≤ 23 → Heap.splice (prc ps[i]) f v = prc p' → ∀ tl : List AV, Heap.splice (prs ps ++ tl) (i * 23 + f) v = prs (ps.set i p') ++ tl
 | p :: ps, 0, f, hi, v, p', hf, hp, tl => by
  show Heap.splice (prc p ++ prs ps ++ tl) (0 * 23 + f) v = _
  rw [Nat.zero_mul, Nat.zero_add, List.append_assoc, splice_in _ _ _ _ (by rw [prc_len]; exact hf)]
  show Heap.splice (prc p) f v ++ _ = prc p' ++ prs ps ++ tl
  rw [show Heap.splice (prc p) f v = prc p' from hp, List.append_assoc]
 | p :: ps, i + 1, f, hi, v, p', hf, hp, tl => by
  have := prs_set (ps := ps) (i := i) (f := f) (by simpa using hi) v p' hf hp tl
  show Heap.splice (prc p ++ prs ps ++ tl) ((i + 1) * 23 + f) v = prc p ++ prs (ps.set i p') ++ tl
  rw [List.append_assoc, show (i + 1) * 23 + f = (prc p).length + (i * 23 + f) by rw [prc_len]; omega, splice_past, this, List.append_assoc]
end Ir
end Go.Proofs.Ytepdklcpagielaa
set_option maxRecDepth 100000
set_option linter.unusedSimpArgs false
set_option linter.unusedVariables false
namespace Go.Proofs.Ytepdklcpagielaa
open Go Ads
namespace Ir

structure RS (h : Heap) (b C : Nat) (X : AV) (tl : List AV) (cs : List Pt) (ps : List Pr) : Prop where
 st : h.get b = some (.cells (.sl C 0 cs.length cs.length true :: X :: (prs ps ++ tl)) true 0)
 cf : h.get C = some (.cells (flatCells (pts cs)) true 3)
 len : ps.length = 4
 le : cs.length ≤ 4
 ne : b ≠ C
theorem RS.keep {h h' : Heap} {b C : Nat} {X : AV} {tl : List AV} {cs : List Pt} {ps : List Pr} (r : RS h b C X tl cs ps) (fr : Fr h h' []) (hb : b < h.next) (hC : C < h.next) : RS h' b C X tl cs ps :=
 ⟨(fr.keep b hb (by simp)).trans r.st, (fr.keep C hC (by simp)).trans r.cf, r.len, r.le, r.ne⟩
section
variable {h : Heap} {b C : Nat} {X : AV} {tl : List AV} {cs : List Pt} {ps : List Pr}
theorem RS.ld {o i f : Nat} {v : AV} (r : RS h b C X tl cs ps) (hi : i < ps.length) (hf : f < 23) (ho : o = i * 23 + f + 2) (hv : (prc ps[i])[f]? = some v) : rV .load1 [.ptr b o] h = some v := by
 refine ld1 r.st ?_
 subst ho
 rw [List.getElem?_cons_succ, List.getElem?_cons_succ, prs_get hi hf]
 exact hv
theorem RS.ldt {o f : Nat} {v : AV} (r : RS h b C X tl cs ps) (ho : o = 94 + f) (hv : tl[f]? = some v) : rV .load1 [.ptr b o] h = some v := by
 refine ld1 r.st ?_
 subst ho
 rw [show 94 + f = 92 + f + 1 + 1 by omega, List.getElem?_cons_succ, List.getElem?_cons_succ, List.getElem?_append_right (by rw [prs_len, r.len]; omega), prs_len, r.len, show 92 + f - 4 * 23 = f by omega]
 exact hv

def Pr.left (p : Pr) : Bool := p.inn && decide (p.ran < p.bud)
theorem left_g {o es : Nat} {vs : List AV} {wr : Bool} {p : Pr} (hg : h.get b = some (.cells vs wr es)) (h0 : vs[o + 0]? = some (.bool p.inn)) (h4 : vs[o + 4]? = some (.int .i64 p.ran)) (h2 : vs[o + 2]? = some (.int .i64 p.bud)) {Q : AV → Heap → Prop} (hQ : Q (.bool p.left) h) : VD fs ms f_judge_part_left [.ptr b o] h Q := by
 refine vd_start (af := C_judge_part_left) true rfl (Nat.le_of_ble_eq_true rfl) ?_
 set_option smartUnfolding false in conv => whnf
 refine ⟨_, ld1 hg h0, ?_⟩
 set_option smartUnfolding false in conv => whnf
 refine br (fun hc => ?_) (fun hc => ?_) <;> (try rw [hc]) <;> (set_option smartUnfolding false in conv => whnf)
 ·refine ⟨_, ld1 hg h4, ?_⟩
  set_option smartUnfolding false in conv => whnf
  refine ⟨_, ld1 hg h2, ?_⟩
  set_option smartUnfolding false in conv => whnf
  rw [Pr.left, hc, Bool.true_and] at hQ
  exact hQ
 ·rw [Pr.left, hc, Bool.false_and] at hQ
  exact hQ
theorem RS.at {o i f : Nat} {v : AV} (r : RS h b C X tl cs ps) (hi : i < ps.length) (hf : f < 23) (ho : o = i * 23 + f + 2) (hv : (prc ps[i])[f]? = some v) : ((.sl C 0 cs.length cs.length true : AV) :: X :: (prs ps ++ tl))[o]? = some v := by
 subst ho
 rw [List.getElem?_cons_succ, List.getElem?_cons_succ, prs_get hi hf]
 exact hv
theorem left_c {i o : Nat} (r : RS h b C X tl cs ps) (hi : i < ps.length) (ho : o = i * 23 + 2) {Q : AV → Heap → Prop} (hQ : Q (.bool ps[i].left) h) : VD fs ms f_judge_part_left [.ptr b o] h Q :=
 left_g r.st (r.at hi (f := 0) (by omega) (by omega) rfl) (r.at hi (f := 4) (by omega) (by omega) rfl) (r.at hi (f := 2) (by omega) (by omega) rfl) hQ
theorem RS.whole {o i : Nat} (r : RS h b C X tl cs ps) (hi : i < ps.length) (ho : o = i * 23 + 2) : rV (.loadN 23) [.ptr b o] h = some (.agg (prc ps[i])) := by
 have hl : o + 23 ≤ ((.sl C 0 cs.length cs.length true : AV) :: X :: (prs ps ++ tl)).length := by
  rw [List.length_cons, List.length_cons, List.length_append, prs_len]
  omega
 rw [ldN r.st hl]
 subst ho
 rw [show i * 23 + 2 = 2 + i * 23 by omega, ← List.drop_drop]
 show some (AV.agg (((prs ps ++ tl).drop (i * 23)).take 23)) = _
 rw [prs_drop hi]
theorem idx_slO {b o n cap j s : Nat} {op : Bool} (h : j < n) : pV (.iaddrS s) [.sl b o n cap op, .int .i64 (j : Nat)] = some (.ptr b (o + j * s)) := by
 have b1 : Nat.ble (j + 1) n = true := Nat.ble_eq_true_of_le (by omega)
 simp only [pV, l2, dNat]
 show cond (Nat.ble (j + 1) n) (some (AV.ptr b (o + j * s))) none = _
 rw [b1, cond_true]

theorem RS.put {o i f n : Nat} {v : AV} {p' : Pr} (r : RS h b C X tl cs ps) (hi : i < ps.length) (ho : o = i * 23 + f + 2) (hn : v.cells.length = n) (hf : f + n ≤ 23) (hfl : flatL v.cells = true) (hp : Heap.splice (prc ps[i]) f v.cells = prc p') :
  ∃ h', eV (.store n) [.ptr b o, v] h = some (.undef, h') ∧ RS h' b C X tl cs (ps.set i p') ∧ Fr h h' [b] := by
 have hb : b ≠ C := r.ne
 subst ho
 refine ⟨_, sto_o r.st hn (by rw [List.length_cons, List.length_cons, List.length_append, prs_len]; omega) hfl, ⟨?_, ?_, by rw [List.length_set]; exact r.len, r.le, r.ne⟩, (Fr.refl h [b]).set (by simp)⟩
 ·rw [get_set_same]
  have h1 : Heap.splice ((.sl C 0 cs.length cs.length true : AV) :: X :: (prs ps ++ tl)) (i * 23 + f + 2) v.cells = .sl C 0 cs.length cs.length true :: X :: (prs (ps.set i p') ++ tl) := by
   have := splice_past [(.sl C 0 cs.length cs.length true : AV), X] (i * 23 + f) v.cells (prs ps ++ tl)
   rw [show ([(.sl C 0 cs.length cs.length true : AV), X] : List AV).length + (i * 23 + f) = i * 23 + f + 2 by simp only [List.length_cons, List.length_nil]; omega] at this
   rw [show (.sl C 0 cs.length cs.length true : AV) :: X :: (prs ps ++ tl) = [(.sl C 0 cs.length cs.length true : AV), X] ++ (prs ps ++ tl) from rfl, this, prs_set hi v.cells p' (by omega) hp]
   rfl
  rw [h1]
 ·rw [get_set_ne (Ne.symm hb)]
  exact r.cf
theorem RS.putT {o f : Nat} {v : AV} {tl' : List AV} (r : RS h b C X tl cs ps) (ho : o = 94 + f) (hn : v.cells.length = 1) (hf : f + 1 ≤ tl.length) (hfl : flatL v.cells = true) (hp : Heap.splice tl f v.cells = tl') :
  ∃ h', eV (.store 1) [.ptr b o, v] h = some (.undef, h') ∧ RS h' b C X tl' cs ps ∧ Fr h h' [b] := by
 have hb : b ≠ C := r.ne
 subst ho
 have hpl : (prs ps).length = 92 := by rw [prs_len, r.len]
 refine ⟨_, sto_o r.st hn (by rw [List.length_cons, List.length_cons, List.length_append, hpl]; omega) hfl, ⟨?_, ?_, r.len, r.le, r.ne⟩, (Fr.refl h [b]).set (by simp)⟩
 ·rw [get_set_same]
  have h1 : Heap.splice ((.sl C 0 cs.length cs.length true : AV) :: X :: (prs ps ++ tl)) (94 + f) v.cells = .sl C 0 cs.length cs.length true :: X :: (prs ps ++ tl') := by
   have := splice_past ((.sl C 0 cs.length cs.length true : AV) :: X :: prs ps) f v.cells tl
   rw [show ((.sl C 0 cs.length cs.length true : AV) :: X :: prs ps).length + f = 94 + f by simp only [List.length_cons, hpl]] at this
   rw [show (.sl C 0 cs.length cs.length true : AV) :: X :: (prs ps ++ tl) = ((.sl C 0 cs.length cs.length true : AV) :: X :: prs ps) ++ tl from rfl, this, hp]
   rfl
  rw [h1]
 ·rw [get_set_ne (Ne.symm hb)]
  exact r.cf

def pend (ps : List Pr) (i : Nat) : Int := match ps[i]? with
 | some p => p.ends
 | none => 0
def sooner (ps : List Pr) (p : Pr) : Option Nat → Bool
 | none => true
 | some j => decide (p.ends < pend ps j)
def couldN (ps : List Pr) : Nat → Option Nat
 | 0 => none
 | i + 1 => match ps[i]? with
  | some p => if (p.left && sooner ps p (couldN ps i)) = true then some i else couldN ps i
  | none => couldN ps i
def optI : Option Nat → Int
 | none => -1
 | some i => (i : Nat)
theorem couldN_lt {ps : List Pr} : ∀ {n i : Nat}, couldN ps n = some i → i < n
 | 0, i, h => by simp [couldN] at h
 | n + 1, i, h => by
  simp only [couldN] at h
  split at h
  ·split at h
   ·simp only [Option.some.injEq] at h; omega
   ·have := couldN_lt h; omega
  ·have := couldN_lt h; omega

theorem jcould_l (r : RS h b C X tl cs ps) {B : Nat} {Q : AX → Env → Heap → Prop} (hQ : ∀ e', Tr.get e' 3 = some (.int .i64 (optI (couldN ps cs.length))) → Q (.exit 0) e' h) :
  ∀ (m j : Nat) (env : Env), cs.length - j = m → j ≤ cs.length → AllAt env [(0, .ptr b 0), (3, .int .i64 (optI (couldN ps j))), (8, .int .i64 ((cs.length : Nat) : Int)), (9, .int .i64 ((j : Nat) : Int))] →
  VC fs ms B false (.loop L_judge_look_could_0) env h Q := by
 intro m
 induction m using Nat.strongRecOn with
 | ind m ih =>
 intro j env hm hj henv
 have hle := r.le
 have hlen := r.len
 refine vc_slots 4 _ henv ?_
 refine vc_loopV (vc_seq true ?_)
 set_option smartUnfolding false in conv => whnf
 refine vc_seq true ?_
 set_option smartUnfolding false in conv => whnf
 refine br (fun hc => ?_) (fun hc => ?_) <;> (try rw [hc]) <;> (set_option smartUnfolding false in conv => whnf)
 ·have hlt : j < cs.length := by have := of_decide_eq_true hc; omega
  have hjp : j < ps.length := by omega
  have hnx : couldN ps (j + 1) = if (ps[j].left && sooner ps ps[j] (couldN ps j)) = true then some j else couldN ps j := by
   show (match ps[j]? with | some p => _ | none => _) = _
   rw [List.getElem?_eq_getElem hjp]
  have hcl := fun i => couldN_lt (ps := ps) (n := j) (i := i)
  have hgo : ∀ (f' : Option Nat) e', couldN ps (j + 1) = f' → AllAt e' [(0, .ptr b 0), (3, .int .i64 (optI f')), (8, .int .i64 ((cs.length : Nat) : Int)), (9, .int .i64 (((j + 1 : Nat) : Nat) : Int))] → VC fs ms B false (.loop L_judge_look_could_0) e' h Q := fun f' e' hf he => ih (cs.length - (j + 1)) (by omega) (j + 1) e' rfl (by omega) (by rw [hf]; exact he)
  clear ih
  generalize couldN ps j = f at *
  refine vc_seqV (vc_block ?_)
  refine vc_seq true ?_
  set_option smartUnfolding false in conv => whnf
  refine vc_seq true ?_
  set_option smartUnfolding false in conv => whnf
  refine ⟨_, idx_arr (by omega), ?_⟩
  set_option smartUnfolding false in conv => whnf
  refine vc_seq true ?_
  set_option smartUnfolding false in conv => whnf
  refine left_c r hjp (by omega) ?_
  set_option smartUnfolding false in conv => whnf
  refine br (fun hc => ?_) (fun hc => ?_) <;> (try rw [hc]) <;> (set_option smartUnfolding false in conv => whnf)
  ·rw [hc, Bool.true_and] at hnx
   rcases f with _ | i
   ·rw [show (optI none == -1) = true from rfl]
    set_option smartUnfolding false in conv => whnf
    refine vpC_sound (z := true) ?_
    set_option smartUnfolding false in conv => whnf
    refine vpC_sound (z := true) ?_
    set_option smartUnfolding false in conv => whnf
    exact hgo (some j) _ (by rw [hnx]; rfl) ⟨rfl, rfl, rfl, inc_slot (by omega), trivial⟩
   ·have hij := hcl i rfl
    rw [show (optI (some i) == -1) = false from beq_eq_false_iff_ne.2 (by show ((i : Nat) : Int) ≠ -1; omega)]
    set_option smartUnfolding false in conv => whnf
    refine ⟨_, r.ld hjp (f := 3) (by omega) (by omega) rfl, ?_⟩
    set_option smartUnfolding false in conv => whnf
    refine ⟨_, idx_arr (j := i) (by omega), ?_⟩
    set_option smartUnfolding false in conv => whnf
    refine ⟨_, r.ld (i := i) (by omega) (f := 3) (by omega) (by omega) rfl, ?_⟩
    set_option smartUnfolding false in conv => whnf
    have hs : sooner ps ps[j] (some i) = decide (ps[j].ends < (ps[i]'(by omega)).ends) := by
     simp [sooner, pend, List.getElem?_eq_getElem (show i < ps.length by omega)]
    rw [hs] at hnx
    refine vpC_sound (z := true) ?_
    set_option smartUnfolding false in conv => whnf
    refine br (fun hc => ?_) (fun hc => ?_) <;> (try rw [hc]) <;> (set_option smartUnfolding false in conv => whnf)
    ·rw [hc, if_pos rfl] at hnx
     refine vpC_sound (z := true) ?_
     set_option smartUnfolding false in conv => whnf
     exact hgo (some j) _ hnx ⟨rfl, rfl, rfl, inc_slot (by omega), trivial⟩
    ·rw [hc, if_neg (by simp)] at hnx
     refine vpC_sound (z := true) ?_
     set_option smartUnfolding false in conv => whnf
     exact hgo (some i) _ hnx ⟨rfl, rfl, rfl, inc_slot (by omega), trivial⟩
  ·rw [hc, Bool.false_and, if_neg (by simp)] at hnx
   refine vpC_sound (z := true) ?_
   set_option smartUnfolding false in conv => whnf
   refine vpC_sound (z := true) ?_
   set_option smartUnfolding false in conv => whnf
   exact hgo f _ hnx ⟨rfl, rfl, rfl, inc_slot (by omega), trivial⟩
 ·have hge : j = cs.length := by have := of_decide_eq_false hc; omega
  subst hge
  exact hQ _ rfl

theorem slice_arr {o n : Nat} (h : n ≤ 4) : pV (.sliceArr 23 4 false true false) [.ptr b o, .int .i64 ((n : Nat) : Int)] = some (.sl b o n 4 false) := by
 have h1 : Nat.ble n 4 = true := Nat.ble_eq_true_of_le h
 show (match (cond (Nat.ble 0 n && Nat.ble n 4 && Nat.ble 4 4) (some (0, n, 4)) none : Option (Nat × Nat × Nat)) with | some (l, h, mm) => some (AV.sl b (o + cond (Nat.beq mm l) 0 (l * 23)) (h - l) (mm - l) false) | none => none) = _
 rw [h1]
 rfl
theorem jall_c (r : RS h b C X tl cs ps) {Q : AV → Heap → Prop} (hQ : Q (.sl b 2 cs.length 4 false) h) : VD fs ms f_judge_look_all [.ptr b 0] h Q := by
 have hle := r.le
 refine vd_start (af := C_judge_look_all) true rfl (Nat.le_of_ble_eq_true rfl) ?_
 set_option smartUnfolding false in conv => whnf
 refine ⟨_, ld1 r.st rfl, ?_⟩
 set_option smartUnfolding false in conv => whnf
 refine ⟨_, slice_arr hle, ?_⟩
 set_option smartUnfolding false in conv => whnf
 exact hQ
theorem jcould_c (r : RS h b C X tl cs ps) {Q : AV → Heap → Prop} (hQ : Q (.int .i64 (optI (couldN ps cs.length))) h) : VD fs ms f_judge_look_could [.ptr b 0] h Q := by
 refine vd_begin (af := C_judge_look_could) rfl (Nat.le_of_ble_eq_true rfl) ?_
 set_option smartUnfolding false in conv => whnf
 refine vc_seq true ?_
 set_option smartUnfolding false in conv => whnf
 refine vc_seq true ?_
 set_option smartUnfolding false in conv => whnf
 refine vc_seqV (vc_seq true ?_)
 set_option smartUnfolding false in conv => whnf
 refine jall_c r ?_
 set_option smartUnfolding false in conv => whnf
 refine vc_block ?_
 refine jcould_l r ?_ cs.length 0 _ rfl (Nat.zero_le _) ⟨rfl, rfl, rfl, rfl, trivial⟩
 intro e' g3
 show VC fs ms _ _ _ _ _ _
 refine vc_slots 4 [(3, .int .i64 (optI (couldN ps cs.length)))] ⟨g3, trivial⟩ (vpC_sound (z := true) ?_)
 set_option smartUnfolding false in conv => whnf
 exact hQ
end
end Ir
end Go.Proofs.Ytepdklcpagielaa
set_option maxRecDepth 100000
set_option linter.unusedSimpArgs false
set_option linter.unusedVariables false
namespace Go.Proofs.Ytepdklcpagielaa
open Go Ads
namespace Ir
theorem must_x {is : Bool} {rule : Int} {h : Heap} {Q R : AV → Heap → Prop} (hQ : is = true → Q (.tup []) h) (hR : is = false → R (.iface 115 (.int .i64 rule)) h) : VX fs ms f_judge_must [.bool is, .int .i64 rule] h Q R := by
 refine vx_begin (af := C_judge_must) rfl (Nat.le_of_ble_eq_true rfl) ?_
 set_option smartUnfolding false in conv => whnf
 refine vc_seq true ?_
 set_option smartUnfolding false in conv => whnf
 refine vc_condV ?_
 set_option smartUnfolding false in conv => whnf
 cases is
 ·set_option smartUnfolding false in conv => whnf
  refine vc_panic (z := true) rfl ?_
  set_option smartUnfolding false in conv => whnf
  exact ⟨_, _, rfl, rfl, hR rfl⟩
 ·set_option smartUnfolding false in conv => whnf
  refine vpC_sound (z := true) ?_
  set_option smartUnfolding false in conv => whnf
  exact ⟨_, rfl, hQ rfl⟩

def ok8 (p : Pr) : Bool := !p.inn || (!p.has || p.left)
theorem by1_l {h0 : Heap} {b C : Nat} {X : AV} {tl : List AV} {cs : List Pt} {ps : List Pr} (r : RS h0 b C X tl cs ps) (hb : b < h0.next) (hC : C < h0.next) {B : Nat} {Q : AX → Env → Heap → Prop}
  (hQ : (ps.take cs.length).all ok8 = true → ∀ e' h', Fr h0 h' [] → Tr.get e' 0 = some (.ptr b 0) → Q (.exit 0) e' h')
  (hP : (ps.take cs.length).all ok8 = false → ∀ e' h', Fr h0 h' [] → Q (.panic (.iface 115 (.int .i64 8))) e' h') :
  ∀ (m j : Nat) (h : Heap) (env : Env), cs.length - j = m → j ≤ cs.length → (ps.take j).all ok8 = true → Fr h0 h [] → AllAt env [(0, .ptr b 0), (7, .sl b 2 cs.length 4 false), (8, .int .i64 ((cs.length : Nat) : Int)), (9, .int .i64 ((j : Nat) : Int))] →
  VC fs ms B false (.loop L_judge_look_by_0) env h Q := by
 intro m
 induction m using Nat.strongRecOn with
 | ind m ih =>
 intro j h env hm hj hi fr henv
 have hle := r.le
 have hlen := r.len
 refine vc_slots 4 _ henv ?_
 refine vc_loopV (vc_seq true ?_)
 set_option smartUnfolding false in conv => whnf
 refine vc_seq true ?_
 set_option smartUnfolding false in conv => whnf
 refine br (fun hc => ?_) (fun hc => ?_) <;> (try rw [hc]) <;> (set_option smartUnfolding false in conv => whnf)
 ·have hlt : j < cs.length := by have := of_decide_eq_true hc; omega
  have hjp : j < ps.length := by omega
  have rh := r.keep fr hb hC
  have hwh := rh.whole hjp (o := 2 + j * 23) (by omega)
  have hno : ok8 ps[j] = false → ∀ e' h', Fr h0 h' [] → Q (.panic (.iface 115 (.int .i64 8))) e' h' := fun hf => hP (by
   rw [List.all_eq_false]
   exact ⟨ps[j], by rw [List.mem_take_iff_getElem]; exact ⟨j, by omega, rfl⟩, by simp [hf]⟩)
  have hgo : ok8 ps[j] = true → ∀ e' h', Fr h0 h' [] → AllAt e' [(0, .ptr b 0), (7, .sl b 2 cs.length 4 false), (8, .int .i64 ((cs.length : Nat) : Int)), (9, .int .i64 (((j + 1 : Nat) : Nat) : Int))] → VC fs ms B false (.loop L_judge_look_by_0) e' h' Q := fun hf e' h' fr' he =>
   ih (cs.length - (j + 1)) (by omega) (j + 1) h' e' rfl (by omega) (all_next hjp hi hf) fr' he
  clear ih hQ hP
  generalize ps[j] = p at *
  refine vc_seqV (vc_block ?_)
  refine vc_seq true ?_
  set_option smartUnfolding false in conv => whnf
  refine ⟨_, idx_slO hlt, ?_⟩
  set_option smartUnfolding false in conv => whnf
  refine ⟨_, hwh, ?_⟩
  set_option smartUnfolding false in conv => whnf
  refine eff_o (sto_o (n := 23) (v := .agg (prc p)) get_new_same rfl (Nat.le_refl _) rfl) fun h1 e1 => ?_
  set_option smartUnfolding false in conv => whnf
  have gs1 : h1.get h.next = some (.cells (prc p) true 0) := by rw [e1, get_set_same]; rfl
  have fr1 : Fr h0 h1 [] := by rw [e1]; exact fr.trans (((Fr.refl h []).new (x := _)).setn (Nat.le_refl _))
  clear e1
  refine vc_opsX (z := true) rfl ?_
  set_option smartUnfolding false in conv => whnf
  refine ⟨_, ld1 gs1 rfl, ?_⟩
  set_option smartUnfolding false in conv => whnf
  have hend : ∀ ok : Bool, ok8 p = ok → ∀ K R : AV → Heap → Prop, (ok = true → K (.tup []) h1) → (ok = false → R (.iface 115 (.int .i64 8)) h1) → VX fs ms f_judge_must [.bool ok, .int .i64 8] h1 K R := fun ok _ K R h1 h2 => must_x h1 h2
  refine br (fun hc => ?_) (fun hc => ?_) <;> (try rw [hc]) <;> (set_option smartUnfolding false in conv => whnf)
  ·have h8 : ok8 p = true := by rw [ok8, hc, Bool.true_or]
   refine hend true h8 _ _ (fun _ => ?_) (fun hf => by simp at hf)
   set_option smartUnfolding false in conv => whnf
   refine vpC_sound (z := true) ?_
   set_option smartUnfolding false in conv => whnf
   exact hgo h8 _ _ fr1 ⟨rfl, rfl, rfl, inc_slot (by omega), trivial⟩
  ·refine ⟨_, ld1 gs1 rfl, ?_⟩
   set_option smartUnfolding false in conv => whnf
   have hin := hc
   refine br (fun hc => ?_) (fun hc => ?_) <;> (try rw [hc]) <;> (set_option smartUnfolding false in conv => whnf)
   ·have h8 : ok8 p = true := by rw [ok8, hin, hc]; rfl
    refine hend true h8 _ _ (fun _ => ?_) (fun hf => by simp at hf)
    set_option smartUnfolding false in conv => whnf
    refine vpC_sound (z := true) ?_
    set_option smartUnfolding false in conv => whnf
    exact hgo h8 _ _ fr1 ⟨rfl, rfl, rfl, inc_slot (by omega), trivial⟩
   ·have h8 : ok8 p = p.left := by rw [ok8, hin, hc]; rfl
    refine left_g (p := p) gs1 rfl rfl rfl ?_
    set_option smartUnfolding false in conv => whnf
    refine hend p.left h8 _ _ (fun ht => ?_) (fun hf => hno (h8.trans hf) _ _ fr1)
    set_option smartUnfolding false in conv => whnf
    refine vpC_sound (z := true) ?_
    set_option smartUnfolding false in conv => whnf
    exact hgo (h8.trans ht) _ _ fr1 ⟨rfl, rfl, rfl, inc_slot (by omega), trivial⟩
 ·have hge : j = cs.length := by have := of_decide_eq_false hc; omega
  subst hge
  exact hQ hi _ _ fr rfl

def stepE (nw : Int) (p : Pr) : Option Pr := if (p.inn && p.ends == nw) = true then (if (p.ran == p.bud) = true then some { p with ran := 0, ends := IntKind.i64.wrap (nw + p.per) } else none) else some p
def endsN (nw : Int) (ps : List Pr) : Nat → Option (List Pr)
 | 0 => some ps
 | j + 1 => match endsN nw ps j with
  | none => none
  | some qs => match qs[j]? with
   | none => some qs
   | some p => (stepE nw p).map fun p' => qs.set j p'
theorem endsN_none {nw : Int} {ps : List Pr} {j : Nat} (h : endsN nw ps j = none) : ∀ k, endsN nw ps (j + k) = none
 | 0 => h
 | k + 1 => by
  show (match endsN nw ps (j + k) with | none => none | some qs => _) = none
  rw [endsN_none h k]
theorem by2_l {h0 : Heap} {b C : Nat} {X : AV} {tl : List AV} {cs : List Pt} {ps : List Pr} {nw : Int} (htl : tl[1]? = some (.int .i64 nw)) {B : Nat} {Q : AX → Env → Heap → Prop}
  (hQ : ∀ qs, endsN nw ps cs.length = some qs → ∀ e' h', RS h' b C X tl cs qs → Fr h0 h' [b] → Q (.exit 2) e' h')
  (hP : endsN nw ps cs.length = none → ∀ qs e' h', RS h' b C X tl cs qs → Fr h0 h' [b] → Q (.panic (.iface 115 (.int .i64 4))) e' h') :
  ∀ (m j : Nat) (h : Heap) (qs : List Pr) (env : Env), cs.length - j = m → j ≤ cs.length → endsN nw ps j = some qs → RS h b C X tl cs qs → Fr h0 h [b] → AllAt env [(0, .ptr b 0), (57, .int .i64 ((cs.length : Nat) : Int)), (58, .int .i64 ((j : Nat) : Int))] →
  VC fs ms B false (.loop L_judge_look_by_1) env h Q := by
 intro m
 induction m using Nat.strongRecOn with
 | ind m ih =>
 intro j h qs env hm hj hes r fr henv
 have hle := r.le
 have hlen := r.len
 refine vc_slots 6 _ henv ?_
 refine vc_loopV (vc_seq true ?_)
 set_option smartUnfolding false in conv => whnf
 refine vc_seq true ?_
 set_option smartUnfolding false in conv => whnf
 refine br (fun hc => ?_) (fun hc => ?_) <;> (try rw [hc]) <;> (set_option smartUnfolding false in conv => whnf)
 ·have hlt : j < cs.length := by have := of_decide_eq_true hc; omega
  have hjp : j < qs.length := by omega
  have hnx : endsN nw ps (j + 1) = (stepE nw qs[j]).map fun p' => qs.set j p' := by
   show (match endsN nw ps j with | none => none | some qs => _) = _
   rw [hes]
   show (match qs[j]? with | none => some qs | some p => _) = _
   rw [List.getElem?_eq_getElem hjp]
  have hno : stepE nw qs[j] = none → ∀ qs e' h', RS h' b C X tl cs qs → Fr h0 h' [b] → Q (.panic (.iface 115 (.int .i64 4))) e' h' := fun hf => hP (by
   rw [hf] at hnx
   have := endsN_none (nw := nw) (ps := ps) (j := j + 1) hnx (cs.length - (j + 1))
   rwa [show j + 1 + (cs.length - (j + 1)) = cs.length by omega] at this)
  have hgo : ∀ p', stepE nw qs[j] = some p' → ∀ h' e', RS h' b C X tl cs (qs.set j p') → Fr h0 h' [b] → AllAt e' [(0, .ptr b 0), (57, .int .i64 ((cs.length : Nat) : Int)), (58, .int .i64 (((j + 1 : Nat) : Nat) : Int))] → VC fs ms B false (.loop L_judge_look_by_1) e' h' Q := fun p' hf h' e' r' fr' he =>
   ih (cs.length - (j + 1)) (by omega) (j + 1) h' _ e' rfl (by omega) (by rw [hnx, hf]; rfl) r' fr' he
  clear ih hQ hP hnx
  refine vc_seqV (vc_block ?_)
  refine vc_seq true ?_
  set_option smartUnfolding false in conv => whnf
  refine vc_seq true ?_
  set_option smartUnfolding false in conv => whnf
  refine ⟨_, idx_arr (by omega), ?_⟩
  set_option smartUnfolding false in conv => whnf
  refine vc_seq true ?_
  set_option smartUnfolding false in conv => whnf
  refine ⟨_, r.ld hjp (f := 0) (by omega) (by omega) rfl, ?_⟩
  set_option smartUnfolding false in conv => whnf
  have hset : qs.set j qs[j] = qs := List.set_getElem_self hjp
  refine br (fun hc => ?_) (fun hc => ?_) <;> (try rw [hc]) <;> (set_option smartUnfolding false in conv => whnf)
  ·have hin := hc
   refine ⟨_, r.ld hjp (f := 3) (by omega) (by omega) rfl, ?_⟩
   set_option smartUnfolding false in conv => whnf
   refine ⟨_, r.ldt (f := 1) (by omega) htl, ?_⟩
   set_option smartUnfolding false in conv => whnf
   refine vc_condV ?_
   set_option smartUnfolding false in conv => whnf
   refine br (fun hc => ?_) (fun hc => ?_) <;> (try rw [hc]) <;> (set_option smartUnfolding false in conv => whnf)
   ·have hst : stepE nw qs[j] = if (qs[j].ran == qs[j].bud) = true then some { qs[j] with ran := 0, ends := IntKind.i64.wrap (nw + qs[j].per) } else none := by rw [stepE, if_pos (by rw [hin, hc]; rfl)]
    refine vc_seqV (vc_dopsX (z := true) rfl rfl rfl ?_)
    set_option smartUnfolding false in conv => whnf
    refine ⟨_, r.ld hjp (f := 4) (by omega) (by omega) rfl, ?_⟩
    set_option smartUnfolding false in conv => whnf
    refine ⟨_, r.ld hjp (f := 2) (by omega) (by omega) rfl, ?_⟩
    set_option smartUnfolding false in conv => whnf
    refine must_x (fun ht => ?_) (fun hf => hno (by rw [hst, if_neg (by rw [hf]; simp)]) qs _ _ r fr)
    rw [if_pos ht] at hst
    set_option smartUnfolding false in conv => whnf
    refine vpC_sound (z := true) ?_
    set_option smartUnfolding false in conv => whnf
    refine ⟨_, r.ldt (f := 1) (by omega) htl, ?_⟩
    set_option smartUnfolding false in conv => whnf
    refine ⟨_, r.ld hjp (f := 1) (by omega) (by omega) rfl, ?_⟩
    set_option smartUnfolding false in conv => whnf
    obtain ⟨h1, s1, r1, fr1⟩ := r.put (v := .int .i64 0) (n := 1) (p' := { qs[j] with ran := 0 }) hjp (f := 4) (o := 0 + 2 + j * 23 + 4) (by omega) rfl (by omega) rfl rfl
    refine eff_o s1 fun h1' e1 => ?_
    subst e1
    set_option smartUnfolding false in conv => whnf
    obtain ⟨h2, s2, r2, fr2⟩ := r1.put (v := .int .i64 (IntKind.i64.wrap (nw + qs[j].per))) (n := 1) (i := j) (p' := { qs[j] with ran := 0, ends := IntKind.i64.wrap (nw + qs[j].per) }) (by rw [List.length_set]; exact hjp) (f := 3) (o := 0 + 2 + j * 23 + 3) (by omega) rfl (by omega) rfl (by rw [List.getElem_set_self]; rfl)
    refine eff_o s2 fun h2' e2 => ?_
    subst e2
    set_option smartUnfolding false in conv => whnf
    rw [List.set_set] at r2
    refine vpC_sound (z := true) ?_
    set_option smartUnfolding false in conv => whnf
    exact hgo _ hst _ _ r2 (fr.trans (fr1.trans fr2)) ⟨rfl, rfl, inc_slot (by omega), trivial⟩
   ·refine vpC_sound (z := true) ?_
    set_option smartUnfolding false in conv => whnf
    refine vpC_sound (z := true) ?_
    set_option smartUnfolding false in conv => whnf
    exact hgo qs[j] (by rw [stepE, if_neg (by rw [hin, hc]; simp)]) _ _ (by rw [hset]; exact r) fr ⟨rfl, rfl, inc_slot (by omega), trivial⟩
  ·refine vpC_sound (z := true) ?_
   set_option smartUnfolding false in conv => whnf
   refine vpC_sound (z := true) ?_
   set_option smartUnfolding false in conv => whnf
   exact hgo qs[j] (by rw [stepE, if_neg (by rw [hc]; simp)]) _ _ (by rw [hset]; exact r) fr ⟨rfl, rfl, inc_slot (by omega), trivial⟩
 ·have hge : j = cs.length := by have := of_decide_eq_false hc; omega
  subst hge
  exact hQ qs hes _ _ r fr

def byS (n : Nat) (ps : List Pr) (now : Int) (ran gone : Bool) : Int ⊕ List Pr :=
 if (ps.take n).all ok8 = false then .inl 8
 else if (ran || (gone || (optI (couldN ps n) == -1))) = false then .inl 3
 else match endsN (IntKind.i64.wrap (now + 1)) ps n with
  | none => .inl 4
  | some qs => .inr qs
def tlJ (un now : Int) (ran gone : Bool) (at_ : Int) : List AV := [.int .i64 un, .int .i64 now, .bool ran, .bool gone, .int .i64 at_]

theorem by_x {h0 : Heap} {b C : Nat} {X : AV} {cs : List Pt} {ps : List Pr} {un now at_ : Int} {ran gone : Bool} (r : RS h0 b C X (tlJ un now ran gone at_) cs ps) (hb : b < h0.next) (hC : C < h0.next) {Q R : AV → Heap → Prop}
  (hQ : ∀ qs, byS cs.length ps now ran gone = .inr qs → ∀ h', RS h' b C X (tlJ un (IntKind.i64.wrap (now + 1)) false false at_) cs qs → Fr h0 h' [b] → Q (.tup []) h')
  (hR : ∀ rule, byS cs.length ps now ran gone = .inl rule → ∀ h' tl qs, RS h' b C X tl cs qs → tl[4]? = some (.int .i64 at_) → Fr h0 h' [b] → R (.iface 115 (.int .i64 rule)) h') : VX fs ms f_judge_look_by [.ptr b 0] h0 Q R := by
 refine vx_begin (af := C_judge_look_by) rfl (Nat.le_of_ble_eq_true rfl) ?_
 set_option smartUnfolding false in conv => whnf
 refine vc_seqV (vc_seq true ?_)
 set_option smartUnfolding false in conv => whnf
 refine jall_c r ?_
 set_option smartUnfolding false in conv => whnf
 refine vc_block ?_
 have frb : ∀ {h'}, Fr h0 h' [] → Fr h0 h' [b] := fun f => ⟨f.next, fun c hc hn => f.keep c hc (by simp)⟩
 refine by1_l r hb hC ?_ (fun hf e' h' fr => hR 8 (by rw [byS, if_pos hf]) h' _ ps (r.keep fr hb hC) rfl (frb fr)) cs.length 0 h0 _ rfl (Nat.zero_le _) rfl (Fr.refl h0 []) ⟨rfl, rfl, rfl, rfl, trivial⟩
 intro hall e' h1 fr1 g0
 show VC fs ms _ _ _ _ _ _
 have r1 := r.keep fr1 hb hC
 have fr1 := frb fr1
 refine vc_slots 4 [(0, .ptr b 0)] ⟨g0, trivial⟩ ?_
 have h3 : (ran || (gone || (optI (couldN ps cs.length) == -1))) = false → byS cs.length ps now ran gone = .inl 3 := fun hf => by rw [byS, if_neg (by rw [hall]; simp), if_pos hf]
 have hmust : ∀ ok : Bool, (ran || (gone || (optI (couldN ps cs.length) == -1))) = ok → ∀ K R' : AV → Heap → Prop, (ok = true → K (.tup []) h1) → (R (.iface 115 (.int .i64 3)) h1 → R' (.iface 115 (.int .i64 3)) h1) → VX fs ms f_judge_must [.bool ok, .int .i64 3] h1 K R' := fun ok he K R' hk hr => must_x hk (fun hf => hr (hR 3 (h3 (he.trans hf)) h1 _ ps r1 rfl fr1))
 refine vc_seqV (VC.mono (Q := fun x e h => (x = .normal ∧ (ran || (gone || (optI (couldN ps cs.length) == -1))) = true ∧ h = h1 ∧ Tr.get e 0 = some (.ptr b 0)) ∨ ∃ v, x = .panic v ∧ R v h) ?_ ?_)
 ·refine vc_opsX (z := true) rfl ?_
  set_option smartUnfolding false in conv => whnf
  refine ⟨_, r1.ldt (f := 2) (by omega) rfl, ?_⟩
  set_option smartUnfolding false in conv => whnf
  clear hQ hR h3
  cases ran
  ·set_option smartUnfolding false in conv => whnf
   refine ⟨_, r1.ldt (f := 3) (by omega) rfl, ?_⟩
   set_option smartUnfolding false in conv => whnf
   cases gone
   ·set_option smartUnfolding false in conv => whnf
    refine jcould_c r1 ?_
    set_option smartUnfolding false in conv => whnf
    exact hmust _ rfl _ _ (fun ht => .inl ⟨rfl, ht, rfl, rfl⟩) (fun hr => .inr ⟨_, rfl, hr⟩)
   ·set_option smartUnfolding false in conv => whnf
    exact hmust true rfl _ _ (fun ht => .inl ⟨rfl, rfl, rfl, rfl⟩) (fun hr => .inr ⟨_, rfl, hr⟩)
  ·set_option smartUnfolding false in conv => whnf
   exact hmust true rfl _ _ (fun ht => .inl ⟨rfl, rfl, rfl, rfl⟩) (fun hr => .inr ⟨_, rfl, hr⟩)
 rintro x e2 h2 (⟨rfl, ht, rfl, g0⟩ | ⟨v, rfl, hr⟩)
 rotate_left
 ·exact hr
 have hby : byS cs.length ps now ran gone = match endsN (IntKind.i64.wrap (now + 1)) ps cs.length with
  | none => .inl 4
  | some qs => .inr qs := by rw [byS, if_neg (by rw [hall]; simp), if_neg (by rw [ht]; simp)]
 clear hmust h3
 show VC fs ms _ _ _ _ _ _
 refine vc_slots 4 [(0, .ptr b 0)] ⟨g0, trivial⟩ ?_
 refine vc_seq true ?_
 set_option smartUnfolding false in conv => whnf
 refine ⟨_, r1.ldt (f := 1) (by omega) rfl, ?_⟩
 set_option smartUnfolding false in conv => whnf
 obtain ⟨h4, s4, r4, fr4⟩ := r1.putT (v := .int .i64 (IntKind.i64.wrap (now + 1))) (f := 1) (o := 0 + 95) (tl' := tlJ un (IntKind.i64.wrap (now + 1)) ran gone at_) (by omega) rfl (by simp [tlJ]) rfl rfl
 refine eff_o s4 fun h4' e4 => ?_
 subst e4
 set_option smartUnfolding false in conv => whnf
 refine vc_seq true ?_
 set_option smartUnfolding false in conv => whnf
 obtain ⟨h5, s5, r5, fr5⟩ := r4.putT (v := .bool false) (f := 2) (o := 0 + 96) (tl' := tlJ un (IntKind.i64.wrap (now + 1)) false gone at_) (by omega) rfl (by simp [tlJ]) rfl rfl
 refine eff_o s5 fun h5' e5 => ?_
 subst e5
 set_option smartUnfolding false in conv => whnf
 obtain ⟨h6, s6, r6, fr6⟩ := r5.putT (v := .bool false) (f := 3) (o := 0 + 97) (tl' := tlJ un (IntKind.i64.wrap (now + 1)) false false at_) (by omega) rfl (by simp [tlJ]) rfl rfl
 refine eff_o s6 fun h6' e6 => ?_
 subst e6
 set_option smartUnfolding false in conv => whnf
 refine vc_seq true ?_
 set_option smartUnfolding false in conv => whnf
 refine jall_c r6 ?_
 set_option smartUnfolding false in conv => whnf
 refine vc_block ?_
 have fr16 := fr1.trans (fr4.trans (fr5.trans fr6))
 refine by2_l (h0 := h0) (ps := ps) (nw := IntKind.i64.wrap (now + 1)) rfl (fun qs he e' h' r' fr' => ?_) (fun he qs e' h' r' fr' => ?_) cs.length 0 h6' ps _ rfl (Nat.zero_le _) rfl r6 fr16 ⟨rfl, rfl, rfl, trivial⟩
 ·exact ⟨_, rfl, hQ qs (by rw [hby, he]) h' r' fr'⟩
 ·exact hR 4 (by rw [hby, he]) h' _ qs r' rfl fr'
end Ir
end Go.Proofs.Ytepdklcpagielaa
set_option maxRecDepth 100000
set_option linter.unusedSimpArgs false
set_option linter.unusedVariables false
namespace Go.Proofs.Ytepdklcpagielaa
open Go Ads
namespace Ir
abbrev Kn := List Pr × Int × Bool × Bool
def toS (n : Nat) : Nat → List Pr → Int → Bool → Bool → Int ⊕ Kn
 | 0, ps, now, ran, gone => .inr (ps, now, ran, gone)
 | k + 1, ps, now, ran, gone => match byS n ps now ran gone with
  | .inl r => .inl r
  | .inr qs => toS n k qs (now + 1) false false

theorem to_l {h0 : Heap} {b C : Nat} {X : AV} {cs : List Pt} {un at_ to_ : Int} (hto : to_ ≤ 10000) {B : Nat} {Q : AX → Env → Heap → Prop} : ∀ (k : Nat) (h : Heap) (ps : List Pr) (now : Int) (ran gone : Bool) (env : Env), RS h b C X (tlJ un now ran gone at_) cs ps → b < h.next → C < h.next → 0 ≤ now → k = (to_ - now).toNat → Fr h0 h [b] →
  (∀ s : Kn, toS cs.length k ps now ran gone = .inr s → ∀ e' h', RS h' b C X (tlJ un s.2.1 s.2.2.1 s.2.2.2 at_) cs s.1 → Fr h0 h' [b] → Q (.exit 0) e' h') →
  (∀ rule, toS cs.length k ps now ran gone = .inl rule → ∀ e' h' tl qs, RS h' b C X tl cs qs → tl[4]? = some (.int .i64 at_) → Fr h0 h' [b] → Q (.panic (.iface 115 (.int .i64 rule))) e' h') →
  AllAt env [(0, .ptr b 0), (1, .int .i64 to_)] → VC fs ms B false (.loop L_judge_look_to_0) env h Q := by
 intro k
 induction k with
 | zero =>
  intro h ps now ran gone env r hb hC h0n hk fr hQ hR henv
  refine vc_slots 4 _ henv ?_
  refine vc_loopV (vc_seq true ?_)
  set_option smartUnfolding false in conv => whnf
  refine ⟨_, r.ldt (f := 1) (by omega) rfl, ?_⟩
  set_option smartUnfolding false in conv => whnf
  rw [show decide (now < to_) = false from decide_eq_false (by omega)]
  set_option smartUnfolding false in conv => whnf
  exact hQ (ps, now, ran, gone) rfl _ _ r fr
 | succ k ih =>
  intro h ps now ran gone env r hb hC h0n hk fr hQ hR henv
  refine vc_slots 4 _ henv ?_
  refine vc_loopV (vc_seq true ?_)
  set_option smartUnfolding false in conv => whnf
  refine ⟨_, r.ldt (f := 1) (by omega) rfl, ?_⟩
  set_option smartUnfolding false in conv => whnf
  rw [show decide (now < to_) = true from decide_eq_true (by omega)]
  set_option smartUnfolding false in conv => whnf
  refine vc_block ?_
  refine vc_opsX (z := true) rfl ?_
  set_option smartUnfolding false in conv => whnf
  refine by_x r hb hC (fun qs hs h' r' fr' => ?_) (fun rule hs h' tl qs r' ht fr' => ?_)
  ·set_option smartUnfolding false in conv => whnf
   have hw : IntKind.i64.wrap (now + 1) = now + 1 := IntWalk.i64_in _ (by omega)
   rw [hw] at r'
   have hto : toS cs.length (k + 1) ps now ran gone = toS cs.length k qs (now + 1) false false := by rw [toS, hs]
   rw [hto] at hQ hR
   exact ih h' qs (now + 1) false false _ r' (Nat.lt_of_lt_of_le hb fr'.next) (Nat.lt_of_lt_of_le hC fr'.next) (by omega) (by omega) (fr.trans fr') hQ hR ⟨rfl, rfl, trivial⟩
  ·exact hR rule (by rw [toS, hs]) _ h' tl qs r' ht (fr.trans fr')

theorem to_x {h0 : Heap} {b C : Nat} {X : AV} {cs : List Pt} {ps : List Pr} {un now at_ to_ : Int} {ran gone : Bool} (r : RS h0 b C X (tlJ un now ran gone at_) cs ps) (hb : b < h0.next) (hC : C < h0.next) (hn : 0 ≤ now) (hto : to_ ≤ 10000) {Q R : AV → Heap → Prop}
  (hQ : ∀ s : Kn, toS cs.length (to_ - now).toNat ps now ran gone = .inr s → ∀ h', RS h' b C X (tlJ un s.2.1 s.2.2.1 s.2.2.2 at_) cs s.1 → Fr h0 h' [b] → Q (.tup []) h')
  (hR : ∀ rule, toS cs.length (to_ - now).toNat ps now ran gone = .inl rule → ∀ h' tl qs, RS h' b C X tl cs qs → tl[4]? = some (.int .i64 at_) → Fr h0 h' [b] → R (.iface 115 (.int .i64 rule)) h') : VX fs ms f_judge_look_to [.ptr b 0, .int .i64 to_] h0 Q R := by
 refine vx_begin (af := C_judge_look_to) rfl (Nat.le_of_ble_eq_true rfl) ?_
 set_option smartUnfolding false in conv => whnf
 refine vc_block ?_
 refine to_l hto (to_ - now).toNat h0 ps now ran gone _ r hb hC hn rfl (Fr.refl h0 [b]) (fun s hs e' h' r' fr' => ⟨_, rfl, hQ s hs h' r' fr'⟩) (fun rule hs e' h' tl qs r' ht fr' => hR rule hs h' tl qs r' ht fr') ⟨rfl, rfl, trivial⟩

def wholeN (x : Nt) : Bool := x.k == 6 || (x.k == 7 || x.k == 8)
theorem whole_c (x : Nt) : PC fs ms f_judge_whole [nt x] (.bool (wholeN x)) := by
 refine pc_of rfl rfl ?_
 refine vd_start (af := C_judge_whole) false rfl (Nat.le_of_ble_eq_true rfl) ?_
 generalize hQ : (fun (u : AV) (_ : Heap) => u = .bool (wholeN x)) = Q
 have hk : ∀ b h, wholeN x = b → Q (.bool b) h := by subst hQ; intro b h hb; rw [hb]
 set_option smartUnfolding false in conv => whnf
 refine br (fun hc => ?_) (fun hc => ?_) <;> (try rw [hc]) <;> (set_option smartUnfolding false in conv => whnf)
 ·exact hk _ _ (by rw [wholeN, hc]; rfl)
 ·have h1 := hc
  refine br (fun hc => ?_) (fun hc => ?_) <;> (try rw [hc]) <;> (set_option smartUnfolding false in conv => whnf)
  ·exact hk _ _ (by rw [wholeN, h1, hc]; rfl)
  ·exact hk _ _ (by rw [wholeN, h1, hc, Bool.false_or, Bool.false_or])

def tasksAt (cs : List Pt) (i : Int) : Nat := match cs[i.toNat]? with
 | some c => c.ts.length
 | none => 0
def shapedS (cs : List Pt) (now un : Int) (x : Nt) : Bool :=
 if (decide (x.a < now) || (decide (x.a > un) || (decide (x.k < 1) || (decide (x.k > 8) || (decide (x.p < 0) || decide (x.p ≥ (cs.length : Nat))))))) = true then false
 else if wholeN x = true then x.t == 0
 else (decide (x.t ≥ 0) || (x.t == -1 && x.k == 1)) && decide (x.t < (tasksAt cs x.p : Nat))

theorem endV_one {t : Nat} {e : Env} {h : Heap} {Q : AV → Heap → Prop} {v : AV} (hg : Tr.get e t = some v) (hq : Q v h) : endV [.tmp t] Q .ret e h := by
 simp only [endV, resAllV, resOfV, hg]
 exact hq
theorem tasks_at {cs : List Pt} {i : Int} (h0 : 0 ≤ i) (h1 : i < (cs.length : Nat)) : ∃ (j : Nat) (hj : j < cs.length), i = ((j : Nat) : Int) ∧ tasksAt cs i = cs[j].ts.length := by
 have hj : i.toNat < cs.length := by omega
 exact ⟨i.toNat, hj, by omega, by rw [tasksAt, List.getElem?_eq_getElem hj]⟩
theorem pts_at {cs : List Pt} {j f : Nat} (hj : j < cs.length) (hf : f < 3) : (flatCells (pts cs))[j * 3 + f]? = (pt cs[j]).cells[f]? := by
 have := flat_at (l := pts cs) (z := 3) (i := j) (j := f) (x := pt cs[j]) (c := ((pt cs[j]).cells[f]?).getD .undef) (allSize_map (enc := pt) (fun _ => rfl) cs) (by simp [pts, hj]) (by
  match f, hf with
  | 0, _ => rfl
  | 1, _ => rfl
  | 2, _ => rfl)
 rw [this]
 match f, hf with
 | 0, _ => rfl
 | 1, _ => rfl
 | 2, _ => rfl

theorem shaped_c {h0 : Heap} {b C : Nat} {X : AV} {cs : List Pt} {ps : List Pr} {un now at_ : Int} {ran gone : Bool} (r : RS h0 b C X (tlJ un now ran gone at_) cs ps) (hb : b < h0.next) (hC : C < h0.next) (x : Nt) {Q : AV → Heap → Prop}
  (hQ : ∀ h', Fr h0 h' [] → Q (.bool (shapedS cs now un x)) h') : VD fs ms f_judge_look_shaped [.ptr b 0, nt x] h0 Q := by
 refine vd_begin (af := C_judge_look_shaped) rfl (Nat.le_of_ble_eq_true rfl) ?_
 set_option smartUnfolding false in conv => whnf
 refine vc_seq true ?_
 set_option smartUnfolding false in conv => whnf
 have gs : (h0.new (.cells (nt x).cells true 0)).get h0.next = some (.cells (nt x).cells true 0) := get_new_same
 have fr1 : Fr h0 (h0.new (.cells (nt x).cells true 0)) [] := (Fr.refl h0 []).new
 have r1 := r.keep fr1 hb hC
 generalize h0.new (.cells (nt x).cells true 0) = h1 at *
 refine vc_seqV (VC.mono (Q := fun y e h => h = h1 ∧ ((y = .ret ∧ shapedS cs now un x = false ∧ Tr.get e 4 = some (.bool false)) ∨ (y = .normal ∧ shapedS cs now un x = (if wholeN x = true then x.t == 0 else (decide (x.t ≥ 0) || (x.t == -1 && x.k == 1)) && decide (x.t < (tasksAt cs x.p : Nat))) ∧ (wholeN x = true ∨ wholeN x = false) ∧ 0 ≤ x.p ∧ x.p < (cs.length : Nat) ∧ AllAt e [(0, .ptr b 0), (3, .ptr h0.next 0)]))) ?_ ?_)
 ·have hbad : (decide (x.a < now) || (decide (x.a > un) || (decide (x.k < 1) || (decide (x.k > 8) || (decide (x.p < 0) || decide (x.p ≥ (cs.length : Nat))))))) = true → shapedS cs now un x = false := fun hf => by rw [shapedS, if_pos hf]
  have hgood : (decide (x.a < now) || (decide (x.a > un) || (decide (x.k < 1) || (decide (x.k > 8) || (decide (x.p < 0) || decide (x.p ≥ (cs.length : Nat))))))) = false → shapedS cs now un x = (if wholeN x = true then x.t == 0 else (decide (x.t ≥ 0) || (x.t == -1 && x.k == 1)) && decide (x.t < (tasksAt cs x.p : Nat))) := fun hf => by rw [shapedS, if_neg (by rw [hf]; simp)]
  have hw2 : wholeN x = true ∨ wholeN x = false := by cases wholeN x <;> simp
  refine vc_seq true ?_
  set_option smartUnfolding false in conv => whnf
  refine ⟨_, ld1 gs rfl, ?_⟩
  set_option smartUnfolding false in conv => whnf
  refine ⟨_, r1.ldt (f := 1) (by omega) rfl, ?_⟩
  set_option smartUnfolding false in conv => whnf
  refine br (fun hc => ?_) (fun hc => ?_) <;> (try rw [hc]) <;> (set_option smartUnfolding false in conv => whnf)
  ·refine vpC_sound (z := true) ?_
   set_option smartUnfolding false in conv => whnf
   exact ⟨rfl, .inl ⟨rfl, hbad (by simp only [hc, Bool.true_or, Bool.or_true, Bool.false_or]), rfl⟩⟩
  ·have c1 := hc
   refine ⟨_, ld1 gs rfl, ?_⟩
   set_option smartUnfolding false in conv => whnf
   refine ⟨_, r1.ldt (f := 0) (by omega) rfl, ?_⟩
   set_option smartUnfolding false in conv => whnf
   refine br (fun hc => ?_) (fun hc => ?_) <;> (try rw [hc]) <;> (set_option smartUnfolding false in conv => whnf)
   ·refine vpC_sound (z := true) ?_
    set_option smartUnfolding false in conv => whnf
    exact ⟨rfl, .inl ⟨rfl, hbad (by simp only [c1, hc, Bool.true_or, Bool.or_true, Bool.false_or]), rfl⟩⟩
   ·have c2 := hc
    refine ⟨_, ld1 gs rfl, ?_⟩
    set_option smartUnfolding false in conv => whnf
    refine br (fun hc => ?_) (fun hc => ?_) <;> (try rw [hc]) <;> (set_option smartUnfolding false in conv => whnf)
    ·refine vpC_sound (z := true) ?_
     set_option smartUnfolding false in conv => whnf
     exact ⟨rfl, .inl ⟨rfl, hbad (by simp only [c1, c2, hc, Bool.true_or, Bool.or_true, Bool.false_or]), rfl⟩⟩
    ·have c3 := hc
     refine ⟨_, ld1 gs rfl, ?_⟩
     set_option smartUnfolding false in conv => whnf
     refine br (fun hc => ?_) (fun hc => ?_) <;> (try rw [hc]) <;> (set_option smartUnfolding false in conv => whnf)
     ·refine vpC_sound (z := true) ?_
      set_option smartUnfolding false in conv => whnf
      exact ⟨rfl, .inl ⟨rfl, hbad (by simp only [c1, c2, c3, hc, Bool.true_or, Bool.or_true, Bool.false_or]), rfl⟩⟩
     ·have c4 := hc
      refine ⟨_, ld1 gs rfl, ?_⟩
      set_option smartUnfolding false in conv => whnf
      refine br (fun hc => ?_) (fun hc => ?_) <;> (try rw [hc]) <;> (set_option smartUnfolding false in conv => whnf)
      ·refine vpC_sound (z := true) ?_
       set_option smartUnfolding false in conv => whnf
       exact ⟨rfl, .inl ⟨rfl, hbad (by simp only [c1, c2, c3, c4, hc, Bool.true_or, Bool.or_true, Bool.false_or]), rfl⟩⟩
      ·have c5 := hc
       refine ⟨_, ld1 gs rfl, ?_⟩
       set_option smartUnfolding false in conv => whnf
       refine ⟨_, ld1 r1.st rfl, ?_⟩
       set_option smartUnfolding false in conv => whnf
       refine vpC_sound (z := true) ?_
       set_option smartUnfolding false in conv => whnf
       refine br (fun hc => ?_) (fun hc => ?_) <;> (try rw [hc]) <;> (set_option smartUnfolding false in conv => whnf)
       ·exact ⟨rfl, .inl ⟨rfl, hbad (by simp only [c1, c2, c3, c4, c5, hc, Bool.true_or, Bool.or_true, Bool.false_or]), rfl⟩⟩
       ·have h5 := of_decide_eq_false c5
        have h6 := of_decide_eq_false hc
        exact ⟨rfl, .inr ⟨rfl, hgood (by simp only [c1, c2, c3, c4, c5, hc, Bool.or_self]), hw2, by omega, by omega, rfl, rfl, trivial⟩⟩
 rintro y e h ⟨rfl, ⟨rfl, hs, g4⟩ | ⟨rfl, hs, hw2, hp1, hp2, he⟩⟩
 ·exact endV_one (v := .bool false) g4 (by rw [← hs]; exact hQ h fr1)
 obtain ⟨j, hj, hpj, htk⟩ := tasks_at hp1 hp2
 rw [htk] at hs
 refine vc_slots 4 _ he ?_
 refine vc_seqV (vc_seq true ?_)
 set_option smartUnfolding false in conv => whnf
 refine ⟨nt x, ldN (n := 7) gs (Nat.le_refl _), ?_⟩
 set_option smartUnfolding false in conv => whnf
 refine vd_pure (whole_c x) ?_
 set_option smartUnfolding false in conv => whnf
 refine vpC_sound (z := true) ?_
 set_option smartUnfolding false in conv => whnf
 refine br (fun hc => ?_) (fun hc => ?_) <;> (try rw [hc]) <;> (set_option smartUnfolding false in conv => whnf)
 ·refine ⟨_, ld1 gs rfl, ?_⟩
  set_option smartUnfolding false in conv => whnf
  rw [hc, if_pos rfl] at hs
  rw [← hs]
  exact hQ h fr1
 ·rw [if_neg (by rw [hc]; simp)] at hs
  refine vpC_sound (z := true) ?_
  set_option smartUnfolding false in conv => whnf
  have hfin : ∀ bb, shapedS cs now un x = bb → Q (.bool bb) h := fun bb hb => hb ▸ hQ h fr1
  have hC2 : (flatCells (pts cs))[0 + j * 3 + 2]? = some (.fz cs[j].k (tks cs[j].ts)) := by rw [Nat.zero_add]; exact pts_at hj (f := 2) (by omega)
  refine ⟨_, ld1 gs rfl, ?_⟩
  set_option smartUnfolding false in conv => whnf
  refine br (fun hc => ?_) (fun hc => ?_) <;> (try rw [hc]) <;> (set_option smartUnfolding false in conv => whnf)
  ·have c1 := hc
   refine ⟨_, ld1 gs rfl, ?_⟩
   set_option smartUnfolding false in conv => whnf
   refine ⟨_, ld1 r1.st rfl, ?_⟩
   set_option smartUnfolding false in conv => whnf
   refine ⟨_, ld1 gs rfl, ?_⟩
   set_option smartUnfolding false in conv => whnf
   rw [hpj]
   refine ⟨_, idx_slO hj, ?_⟩
   set_option smartUnfolding false in conv => whnf
   refine ⟨_, ld1 r1.cf hC2, ?_⟩
   set_option smartUnfolding false in conv => whnf
   rw [len_tks]
   refine hfin _ (by rw [hs, c1, Bool.true_or, Bool.true_and])
  ·have c1 := hc
   refine ⟨_, ld1 gs rfl, ?_⟩
   set_option smartUnfolding false in conv => whnf
   refine br (fun hc => ?_) (fun hc => ?_) <;> (try rw [hc]) <;> (set_option smartUnfolding false in conv => whnf)
   ·have c2 := hc
    refine ⟨_, ld1 gs rfl, ?_⟩
    set_option smartUnfolding false in conv => whnf
    refine br (fun hc => ?_) (fun hc => ?_) <;> (try rw [hc]) <;> (set_option smartUnfolding false in conv => whnf)
    ·have c3 := hc
     refine ⟨_, ld1 gs rfl, ?_⟩
     set_option smartUnfolding false in conv => whnf
     refine ⟨_, ld1 r1.st rfl, ?_⟩
     set_option smartUnfolding false in conv => whnf
     refine ⟨_, ld1 gs rfl, ?_⟩
     set_option smartUnfolding false in conv => whnf
     rw [hpj]
     refine ⟨_, idx_slO hj, ?_⟩
     set_option smartUnfolding false in conv => whnf
     refine ⟨_, ld1 r1.cf hC2, ?_⟩
     set_option smartUnfolding false in conv => whnf
     rw [len_tks]
     refine hfin _ (by rw [hs, c1, c2, c3]; rfl)
    ·exact hfin _ (by rw [hs, c1, c2, hc]; rfl)
   ·exact hfin _ (by rw [hs, c1, hc]; rfl)
end Ir
end Go.Proofs.Ytepdklcpagielaa
set_option maxRecDepth 100000
set_option linter.unusedSimpArgs false
set_option linter.unusedVariables false
namespace Go.Proofs.Ytepdklcpagielaa
open Go Ads
namespace Ir
def jb (j : Jb) : AV := .agg (jbc j)
def jbs (l : List Jb) : List AV := l.map jb
theorem cl_jbs (l : List Jb) : clL (jbs l) = true := clL_map (enc := jb) (fun _ => rfl) l
theorem len_jbs (l : List Jb) : (jbs l).length = l.length := List.length_map ..
theorem idx_jb {l : List Jb} {j k : Nat} (hj : j < l.length) : pV (.iaddrS 4) [.fz k (jbs l), .int .i64 (j : Nat)] = some (.fp (jb l[j]).cells 0) := idx_map (enc := jb) hj rfl
theorem ixfJ_c {F : Nat} {capt : List AV} {p : Jb → Bool} (k : Nat) (l : List Jb) (hl : l.length < 2 ^ 62) (hcap : clL capt = true) (hp : ∀ m, m ∈ l → PC fs ms F (jb m :: capt) (.bool (p m))) :
  ∃ n : Int, PC fs ms f_slices_IndexFunc_judge_job_judge_job [.fz k (jbs l), .func (.func F) [] capt] (.int .i64 n) ∧ decide (n ≥ 0) = l.any p := by
 by_cases ha : l.any p = true
 ·obtain ⟨j, hj, h1, h2⟩ := least_get (l := l) (p := fun m => p m = true) (by simpa using ha)
  refine ⟨(j : Nat), ?_, by rw [ha]; simp⟩
  refine pc_of (by simp [clL, AV.cl, cl_jbs, hcap]) rfl ?_
  refine vd_start (af := C_slices_IndexFunc_judge_job_judge_job) false rfl (Nat.le_of_ble_eq_true rfl) ?_
  generalize hQ : (fun (v : AV) (_ : Heap) => v = .int .i64 (j : Nat)) = Q
  set_option smartUnfolding false in conv => whnf
  refine vc_to0 5 [(0, .fz k (jbs l)), (1, .func (.func F) [] capt), (7, .int .i64 (jbs l).length), (8, .int .i64 ((0 : Nat) : Int))] (by repeat' (first | exact trivial | refine renAt_sl rfl (by omega) ?_ | refine renAt_ptr rfl (by omega) ?_ | refine renAt_yield rfl (by omega) ?_ | refine renAt_cl rfl (by first | rfl | simp [clL, AV.cl, cl_ints, cl_jbs, hcap]) ?_ | refine renAt_cl (inc_slot (by omega)) rfl ?_)) ?_
  refine for_row 5 j (fun _ => True) (fun i => [(0, .fz k (jbs l)), (1, .func (.func F) [] capt), (7, .int .i64 (jbs l).length), (8, .int .i64 (i : Nat))]) ?_ ?_ trivial
  ·intro i hi _
   set_option smartUnfolding false in conv => whnf
   refine br (fun hc => ?_) (fun hc => ?_) <;> (try rw [hc]) <;> (set_option smartUnfolding false in conv => whnf)
   ·refine ⟨_, idx_jb (by omega), ?_⟩
    set_option smartUnfolding false in conv => whnf
    refine vd_pure (hp _ (List.getElem_mem _)) ?_
    set_option smartUnfolding false in conv => whnf
    refine br (fun hc => ?_) (fun hc => ?_) <;> (try rw [hc]) <;> (set_option smartUnfolding false in conv => whnf)
    ·exact absurd hc (h2 i (by omega) hi)
    ·refine ⟨trivial, ⟨_, rfl, .cl (by simp [AV.cl, cl_jbs])⟩, ⟨_, rfl, .cl (by simp [AV.cl, clL, hcap])⟩, ⟨_, rfl, .cl rfl⟩, ⟨_, inc_slot (by omega), .cl rfl⟩, trivial⟩
   ·exfalso
    have := of_decide_eq_false hc
    rw [len_jbs] at this
    omega
  ·intro _
   set_option smartUnfolding false in conv => whnf
   refine br (fun hc => ?_) (fun hc => ?_) <;> (try rw [hc]) <;> (set_option smartUnfolding false in conv => whnf)
   ·refine ⟨_, idx_jb hj, ?_⟩
    set_option smartUnfolding false in conv => whnf
    refine vd_pure (hp _ (List.getElem_mem _)) ?_
    set_option smartUnfolding false in conv => whnf
    refine br (fun hc => ?_) (fun hc => ?_) <;> (try rw [hc]) <;> (set_option smartUnfolding false in conv => whnf)
    ·subst hQ
     rfl
    ·rw [h1] at hc; simp at hc
   ·exfalso
    have := of_decide_eq_false hc
    rw [len_jbs] at this
    omega
 ·have hn : ∀ m, m ∈ l → p m = false := by
   intro m hm
   rw [Bool.eq_false_iff]
   intro h
   exact ha (List.any_eq_true.2 ⟨m, hm, h⟩)
  refine ⟨-1, ?_, by rw [Bool.eq_false_iff.2 ha]; decide⟩
  refine pc_of (by simp [clL, AV.cl, cl_jbs, hcap]) rfl ?_
  refine vd_start (af := C_slices_IndexFunc_judge_job_judge_job) false rfl (Nat.le_of_ble_eq_true rfl) ?_
  generalize hQ : (fun (v : AV) (_ : Heap) => v = .int .i64 (-1)) = Q
  set_option smartUnfolding false in conv => whnf
  refine vc_to0 5 [(0, .fz k (jbs l)), (1, .func (.func F) [] capt), (7, .int .i64 (jbs l).length), (8, .int .i64 ((0 : Nat) : Int))] (by repeat' (first | exact trivial | refine renAt_sl rfl (by omega) ?_ | refine renAt_ptr rfl (by omega) ?_ | refine renAt_yield rfl (by omega) ?_ | refine renAt_cl rfl (by first | rfl | simp [clL, AV.cl, cl_ints, cl_jbs, hcap]) ?_ | refine renAt_cl (inc_slot (by omega)) rfl ?_)) ?_
  refine for_row 5 l.length (fun _ => True) (fun i => [(0, .fz k (jbs l)), (1, .func (.func F) [] capt), (7, .int .i64 (jbs l).length), (8, .int .i64 (i : Nat))]) ?_ ?_ trivial
  ·intro i hi _
   set_option smartUnfolding false in conv => whnf
   refine br (fun hc => ?_) (fun hc => ?_) <;> (try rw [hc]) <;> (set_option smartUnfolding false in conv => whnf)
   ·refine ⟨_, idx_jb (by omega), ?_⟩
    set_option smartUnfolding false in conv => whnf
    refine vd_pure (hp _ (List.getElem_mem _)) ?_
    set_option smartUnfolding false in conv => whnf
    refine br (fun hc => ?_) (fun hc => ?_) <;> (try rw [hc]) <;> (set_option smartUnfolding false in conv => whnf)
    ·rw [hn _ (List.getElem_mem hi)] at hc; simp at hc
    ·refine ⟨trivial, ⟨_, rfl, .cl (by simp [AV.cl, cl_jbs])⟩, ⟨_, rfl, .cl (by simp [AV.cl, clL, hcap])⟩, ⟨_, rfl, .cl rfl⟩, ⟨_, inc_slot (by omega), .cl rfl⟩, trivial⟩
   ·exfalso
    have := of_decide_eq_false hc
    rw [len_jbs] at this
    omega
  ·intro _
   set_option smartUnfolding false in conv => whnf
   refine br (fun hc => ?_) (fun hc => ?_) <;> (try rw [hc]) <;> (set_option smartUnfolding false in conv => whnf)
   ·exfalso
    have := of_decide_eq_true hc
    rw [len_jbs] at this
    omega
   ·subst hQ
    rfl

theorem cfJ_c {F : Nat} {capt : List AV} {p : Jb → Bool} (k : Nat) (l : List Jb) (hl : l.length < 2 ^ 62) (hcap : clL capt = true) (hp : ∀ m, m ∈ l → PC fs ms F (jb m :: capt) (.bool (p m))) :
  PC fs ms f_slices_ContainsFunc_judge_job_judge_job [.fz k (jbs l), .func (.func F) [] capt] (.bool (l.any p)) := by
 obtain ⟨n, c1, c2⟩ := ixfJ_c k l hl hcap hp
 refine pc_of (by simp [clL, AV.cl, cl_jbs, hcap]) rfl ?_
 refine vd_start (af := C_slices_ContainsFunc_judge_job_judge_job) false rfl (Nat.le_of_ble_eq_true rfl) ?_
 generalize hQ : (fun (v : AV) (_ : Heap) => v = .bool (l.any p)) = Q
 set_option smartUnfolding false in conv => whnf
 refine vd_pure c1 ?_
 set_option smartUnfolding false in conv => whnf
 subst hQ
 exact congrArg AV.bool c2

theorem isJ_c (j : Jb) : PC fs ms f_judge_part_there_1 [jb j] (.bool j.is) := by
 refine pc_of rfl rfl ?_
 refine vd_start (af := C_judge_part_there_1) false rfl (Nat.le_of_ble_eq_true rfl) ?_
 generalize hQ : (fun (v : AV) (_ : Heap) => v = .bool j.is) = Q
 set_option smartUnfolding false in conv => whnf
 subst hQ
 rfl
def Pr.some (p : Pr) : Bool := p.j0.is || (p.j1.is || (p.j2.is || p.j3.is))
theorem someJ_c (p : Pr) : PC fs ms f_slices_ContainsFunc_judge_job_judge_job [.fz 0 (jbs [p.j0, p.j1, p.j2, p.j3]), .func (.func f_judge_part_there_1) [] []] (.bool p.some) := by
 have := cfJ_c (F := f_judge_part_there_1) (capt := []) (p := fun j => j.is) 0 [p.j0, p.j1, p.j2, p.j3] (by simp) rfl (fun m _ => isJ_c m)
 have h : [p.j0, p.j1, p.j2, p.j3].any (fun j => j.is) = p.some := by simp [Pr.some]
 rw [h] at this
 exact this

theorem jobs_frz {h : Heap} {b C : Nat} {X : AV} {tl : List AV} {cs : List Pt} {ps : List Pr} (r : RS h b C X tl cs ps) {i o : Nat} (hi : i < ps.length) (ho : o = i * 23 + 7) {op : Bool} : Frz (fun _ => True) h (.sl b o 4 4 op) (.fz 0 (jbs [ps[i].j0, ps[i].j1, ps[i].j2, ps[i].j3])) := by
 refine .sl (s := 4) trivial r.st rfl rfl ?_ (Nat.le_refl _) (by omega) (fun h => by omega) (fun h => by omega) ?_
 ·rw [List.length_cons, List.length_cons, List.length_append, prs_len]
  show o + 4 * 4 ≤ _
  omega
 ·intro k x f c y hx hc hy
  have hk : k < 4 := (List.getElem?_eq_some_iff.1 hx).1
  have hxl : x.cells.length = 4 := by
   match k, hk, hx with
   | 0, _, hx => cases hx; rfl
   | 1, _, hx => cases hx; rfl
   | 2, _, hx => cases hx; rfl
   | 3, _, hx => cases hx; rfl
  have hf : f < 4 := by have := (List.getElem?_eq_some_iff.1 hc).1; omega
  have hcc : (prc ps[i])[5 + k * 4 + f]? = some c := by
   match k, hk, hx, f, hf, hc with
   | 0, _, hx, 0, _, hc => cases hx; exact hc
   | 0, _, hx, 1, _, hc => cases hx; exact hc
   | 0, _, hx, 2, _, hc => cases hx; exact hc
   | 0, _, hx, 3, _, hc => cases hx; exact hc
   | 1, _, hx, 0, _, hc => cases hx; exact hc
   | 1, _, hx, 1, _, hc => cases hx; exact hc
   | 1, _, hx, 2, _, hc => cases hx; exact hc
   | 1, _, hx, 3, _, hc => cases hx; exact hc
   | 2, _, hx, 0, _, hc => cases hx; exact hc
   | 2, _, hx, 1, _, hc => cases hx; exact hc
   | 2, _, hx, 2, _, hc => cases hx; exact hc
   | 2, _, hx, 3, _, hc => cases hx; exact hc
   | 3, _, hx, 0, _, hc => cases hx; exact hc
   | 3, _, hx, 1, _, hc => cases hx; exact hc
   | 3, _, hx, 2, _, hc => cases hx; exact hc
   | 3, _, hx, 3, _, hc => cases hx; exact hc
  have := r.at hi (f := 5 + k * 4 + f) (by omega) (o := o + (k * 4 + f)) (by omega) hcc
  rw [this] at hy
  cases hy
  have hcl : clL (prc ps[i]) = true := rfl
  exact .clean (clL_get hcl hcc)

def thereS (p : Pr) (x : Nt) : Bool :=
 if (x.k == 7 || x.k == 8) = true then !p.some
 else if (x.k == 2) = true then (x.e != 0 || !(p.job x.t.toNat).is)
 else if (wholeN x || x.t == -1) = true then true
 else (p.job x.t.toNat).is
theorem job_is {p : Pr} {k : Nat} (hk : k < 4) : (prc p)[5 + k * 4 + 0]? = some (.bool (p.job k).is) := by
 match k, hk with
 | 0, _ => rfl
 | 1, _ => rfl
 | 2, _ => rfl
 | 3, _ => rfl
theorem slice_arr4 {b o : Nat} : pV (.sliceArr 4 4 false false false) [.ptr b o] = some (.sl b o 4 4 false) := rfl

theorem there_c {h0 : Heap} {b C : Nat} {X : AV} {tl : List AV} {cs : List Pt} {ps : List Pr} (r : RS h0 b C X tl cs ps) (hb : b < h0.next) (hC : C < h0.next) {i o : Nat} (hi : i < ps.length) (ho : o = i * 23 + 2) (x : Nt) (ht : wholeN x = false → x.t ≠ -1 → 0 ≤ x.t ∧ x.t < 4) (ht2 : x.k = 2 → 0 ≤ x.t ∧ x.t < 4) {Q : AV → Heap → Prop}
  (hQ : ∀ h', Fr h0 h' [] → Q (.bool (thereS ps[i] x)) h') : VD fs ms f_judge_part_there [.ptr b o, nt x] h0 Q := by
 refine vd_begin (af := C_judge_part_there) rfl (Nat.le_of_ble_eq_true rfl) ?_
 set_option smartUnfolding false in conv => whnf
 refine vc_seq true ?_
 set_option smartUnfolding false in conv => whnf
 have gs : (h0.new (.cells (nt x).cells true 0)).get h0.next = some (.cells (nt x).cells true 0) := get_new_same
 have fr1 : Fr h0 (h0.new (.cells (nt x).cells true 0)) [] := (Fr.refl h0 []).new
 have r1 := r.keep fr1 hb hC
 generalize h0.new (.cells (nt x).cells true 0) = h1 at *
 have hq := hQ h1 fr1
 clear hQ
 refine vc_seqV (vc_block ?_)
 refine vc_seqV (VC.mono (Q := fun y e h => y = .normal ∧ h = h1 ∧ AllAt e [(0, .ptr b o), (3, .ptr h0.next 0), (5, .bool (x.k == 7 || x.k == 8))]) ?_ ?_)
 ·refine vpC_sound (z := true) ?_
  set_option smartUnfolding false in conv => whnf
  refine ⟨_, ld1 gs rfl, ?_⟩
  set_option smartUnfolding false in conv => whnf
  refine br (fun hc => ?_) (fun hc => ?_) <;> (try rw [hc]) <;> (set_option smartUnfolding false in conv => whnf)
  ·exact ⟨rfl, rfl, rfl, rfl, by first | rfl | (rw [hc]; rfl), trivial⟩
  ·refine ⟨_, ld1 gs rfl, ?_⟩
   set_option smartUnfolding false in conv => whnf
   exact ⟨rfl, rfl, rfl, rfl, by first | rfl | (rw [hc]; rfl), trivial⟩
 rintro y e h ⟨rfl, rfl, he⟩
 show VC fs ms _ _ _ _ _ _
 refine vc_slots 4 _ he ?_
 clear he
 cases h78 : (x.k == 7 || x.k == 8) with
 | true =>
  refine vpC_sound (z := true) ?_
  set_option smartUnfolding false in conv => whnf
  refine ⟨_, slice_arr4, ?_⟩
  set_option smartUnfolding false in conv => whnf
  refine vd_view (someJ_c ps[i]) rfl (.cons (jobs_frz r1 hi (by omega)) (.cons (.clean rfl) .nil)) ?_
  set_option smartUnfolding false in conv => whnf
  rw [thereS, if_pos h78] at hq
  exact hq
 | false =>
  rw [thereS, if_neg (by rw [h78]; simp)] at hq
  refine vc_condV ?_
  set_option smartUnfolding false in conv => whnf
  refine vc_seq true ?_
  set_option smartUnfolding false in conv => whnf
  refine ⟨_, ld1 gs rfl, ?_⟩
  set_option smartUnfolding false in conv => whnf
  cases h2 : (x.k == 2) with
  | true =>
   rw [if_pos h2] at hq
   obtain ⟨t0, t1⟩ := ht2 (by simpa using h2)
   have hjx : x.t = ((x.t.toNat : Nat) : Int) := by omega
   have hj4 : x.t.toNat < 4 := by omega
   generalize x.t.toNat = jn at *
   refine vpC_sound (z := true) ?_
   set_option smartUnfolding false in conv => whnf
   refine ⟨_, ld1 gs rfl, ?_⟩
   set_option smartUnfolding false in conv => whnf
   refine br (fun hc => ?_) (fun hc => ?_) <;> (try rw [hc]) <;> (set_option smartUnfolding false in conv => whnf)
   ·rw [hc, Bool.true_or] at hq
    exact hq
   ·refine ⟨_, ld1 gs rfl, ?_⟩
    set_option smartUnfolding false in conv => whnf
    rw [hjx]
    refine ⟨_, idx_arr hj4, ?_⟩
    set_option smartUnfolding false in conv => whnf
    refine ⟨_, r1.ld hi (f := 5 + jn * 4 + 0) (by omega) (by omega) (job_is hj4), ?_⟩
    set_option smartUnfolding false in conv => whnf
    rw [hc, Bool.false_or] at hq
    exact hq
  | false =>
   rw [if_neg (by rw [h2]; simp)] at hq
   refine vpC_sound (z := true) ?_
   set_option smartUnfolding false in conv => whnf
   refine ⟨nt x, ldN (n := 7) gs (Nat.le_refl _), ?_⟩
   set_option smartUnfolding false in conv => whnf
   refine vd_pure (whole_c x) ?_
   set_option smartUnfolding false in conv => whnf
   refine br (fun hc => ?_) (fun hc => ?_) <;> (try rw [hc]) <;> (set_option smartUnfolding false in conv => whnf)
   ·rw [hc, Bool.true_or, if_pos rfl] at hq
    exact hq
   ·have hw := hc
    refine ⟨_, ld1 gs rfl, ?_⟩
    set_option smartUnfolding false in conv => whnf
    refine br (fun hc => ?_) (fun hc => ?_) <;> (try rw [hc]) <;> (set_option smartUnfolding false in conv => whnf)
    ·rw [hc, Bool.or_true, if_pos rfl] at hq
     exact hq
    ·rw [hw, hc, Bool.or_self, if_neg (by simp)] at hq
     obtain ⟨t0, t1⟩ := ht hw (by simpa using hc)
     have hjx : x.t = ((x.t.toNat : Nat) : Int) := by omega
     have hj4 : x.t.toNat < 4 := by omega
     generalize x.t.toNat = jn at *
     refine vpC_sound (z := true) ?_
     set_option smartUnfolding false in conv => whnf
     refine ⟨_, ld1 gs rfl, ?_⟩
     set_option smartUnfolding false in conv => whnf
     rw [hjx]
     refine ⟨_, idx_arr hj4, ?_⟩
     set_option smartUnfolding false in conv => whnf
     refine ⟨_, r1.ld hi (f := 5 + jn * 4 + 0) (by omega) (by omega) (job_is hj4), ?_⟩
     set_option smartUnfolding false in conv => whnf
     exact hq
end Ir
end Go.Proofs.Ytepdklcpagielaa
set_option maxRecDepth 100000
set_option linter.unusedSimpArgs false
set_option linter.unusedVariables false
namespace Go.Proofs.Ytepdklcpagielaa
open Go Ads
namespace Ir
theorem drop_cons {α : Type} {l : List α} {o : Nat} {a : α} (h : l[o]? = some a) : l.drop o = a :: l.drop (o + 1) := by
 obtain ⟨h1, h2⟩ := List.getElem?_eq_some_iff.1 h
 rw [List.drop_eq_getElem_cons h1, h2]
theorem job_cell {p : Pr} {k f : Nat} (hk : k < 4) (hf : f < 4) : (prc p)[5 + k * 4 + f]? = (jbc (p.job k))[f]? := by
 match k, hk, f, hf with
 | 0, _, 0, _ => rfl
 | 0, _, 1, _ => rfl
 | 0, _, 2, _ => rfl
 | 0, _, 3, _ => rfl
 | 1, _, 0, _ => rfl
 | 1, _, 1, _ => rfl
 | 1, _, 2, _ => rfl
 | 1, _, 3, _ => rfl
 | 2, _, 0, _ => rfl
 | 2, _, 1, _ => rfl
 | 2, _, 2, _ => rfl
 | 2, _, 3, _ => rfl
 | 3, _, 0, _ => rfl
 | 3, _, 1, _ => rfl
 | 3, _, 2, _ => rfl
 | 3, _, 3, _ => rfl
section
variable {h : Heap} {b C : Nat} {X : AV} {tl : List AV} {cs : List Pt} {ps : List Pr}
theorem RS.job {o i k : Nat} (r : RS h b C X tl cs ps) (hi : i < ps.length) (hk : k < 4) (ho : o = i * 23 + 7 + k * 4) : rV (.loadN 4) [.ptr b o] h = some (.agg (jbc (ps[i].job k))) := by
 have g := fun f (hf : f < 4) => r.at hi (f := 5 + k * 4 + f) (v := ((jbc (ps[i].job k))[f]?).getD .undef) (o := o + f) (by omega) (by omega) (by
  rw [job_cell hk hf]
  match f, hf with
  | 0, _ => rfl
  | 1, _ => rfl
  | 2, _ => rfl
  | 3, _ => rfl)
 have hl : o + 4 ≤ ((.sl C 0 cs.length cs.length true : AV) :: X :: (prs ps ++ tl)).length := by
  rw [List.length_cons, List.length_cons, List.length_append, prs_len]
  omega
 rw [ldN r.st hl, drop_cons (o := o) (g 0 (by omega)), drop_cons (o := o + 1) (g 1 (by omega)), drop_cons (o := o + 1 + 1) (g 2 (by omega)), drop_cons (o := o + 1 + 1 + 1) (g 3 (by omega))]
 rfl
end
def timelyS (p : Pr) (x : Nt) (t : Tk) : Int :=
 if (x.k == 2) = true then (if (x.e != 0 || decide (x.a ≥ (p.job x.t.toNat).nx)) = true then 0 else 6)
 else if (x.k == 4 || decide (x.a < IntKind.i64.wrap ((p.job x.t.toNat).tm + t.d))) = false then 7
 else if (x.k != 1 || decide ((p.job x.t.toNat).ran < t.w)) = false then 7 else 0

theorem timely_x {h0 : Heap} {b C : Nat} {X : AV} {tl : List AV} {cs : List Pt} {ps : List Pr} (r : RS h0 b C X tl cs ps) (hb : b < h0.next) (hC : C < h0.next) {i o : Nat} (hi : i < ps.length) (ho : o = i * 23 + 2) (x : Nt) (t : Tk) (ht : 0 ≤ x.t ∧ x.t < 4) {Q R : AV → Heap → Prop}
  (hQ : timelyS ps[i] x t = 0 → ∀ h', Fr h0 h' [] → Q (.tup []) h')
  (hR : ∀ rule, timelyS ps[i] x t = rule → rule ≠ 0 → ∀ h', Fr h0 h' [] → R (.iface 115 (.int .i64 rule)) h') : VX fs ms f_judge_part_timely [.ptr b o, nt x, tk t] h0 Q R := by
 have hjx : x.t = ((x.t.toNat : Nat) : Int) := by omega
 have hj4 : x.t.toNat < 4 := by omega
 unfold timelyS at hQ hR
 generalize hjn : x.t.toNat = jn at *
 have hjob := fun {h1 : Heap} (r1 : RS h1 b C X tl cs ps) => r1.job hi hj4 (o := o + 5 + jn * 4) (by omega)
 generalize ps[i].job jn = j at *
 refine vx_begin (af := C_judge_part_timely) rfl (Nat.le_of_ble_eq_true rfl) ?_
 set_option smartUnfolding false in conv => whnf
 refine vc_seq true ?_
 set_option smartUnfolding false in conv => whnf
 have g1 : ((h0.new (.cells (nt x).cells true 0)).new (.cells (tk t).cells true 0)).get h0.next = some (.cells (nt x).cells true 0) := (get_new_ne (Nat.lt_succ_self _)).trans get_new_same
 have g2 : ((h0.new (.cells (nt x).cells true 0)).new (.cells (tk t).cells true 0)).get (h0.new (.cells (nt x).cells true 0)).next = some (.cells (tk t).cells true 0) := get_new_same
 have fr1 : Fr h0 ((h0.new (.cells (nt x).cells true 0)).new (.cells (tk t).cells true 0)) [] := ((Fr.refl h0 []).new).new
 have n1 : h0.next < ((h0.new (.cells (nt x).cells true 0)).new (.cells (tk t).cells true 0)).next := by show h0.next < h0.next + 1 + 1; omega
 have n2 : (h0.new (.cells (nt x).cells true 0)).next < ((h0.new (.cells (nt x).cells true 0)).new (.cells (tk t).cells true 0)).next := by show h0.next + 1 < h0.next + 1 + 1; omega
 generalize (h0.new (.cells (nt x).cells true 0)).new (.cells (tk t).cells true 0) = h1 at *
 generalize (h0.new (.cells (nt x).cells true 0)).next = p2 at *
 have r1 := r.keep fr1 hb hC
 refine vc_seq true ?_
 set_option smartUnfolding false in conv => whnf
 refine ⟨_, ld1 g1 rfl, ?_⟩
 set_option smartUnfolding false in conv => whnf
 rw [hjx]
 refine ⟨_, idx_arr hj4, ?_⟩
 set_option smartUnfolding false in conv => whnf
 refine ⟨_, hjob r1, ?_⟩
 set_option smartUnfolding false in conv => whnf
 refine eff_o (sto_o (n := 4) (v := .agg (jbc j)) get_new_same rfl (Nat.le_refl _) rfl) fun h2 e2 => ?_
 set_option smartUnfolding false in conv => whnf
 have k1 : h2.get h0.next = some (.cells (nt x).cells true 0) := by rw [e2, get_set_ne (by omega), get_new_ne n1]; exact g1
 have k2 : h2.get p2 = some (.cells (tk t).cells true 0) := by rw [e2, get_set_ne (by omega), get_new_ne n2]; exact g2
 have k3 : h2.get h1.next = some (.cells (jbc j) true 0) := by rw [e2, get_set_same]; rfl
 have fr2 : Fr h0 h2 [] := by rw [e2]; exact fr1.trans (((Fr.refl h1 []).new (x := _)).setn (Nat.le_refl _))
 clear e2 g1 g2 fr1 r1 hjob
 have hM : ∀ (ok : Bool) (rule : Int) (K R' : AV → Heap → Prop), (ok = true → K (.tup []) h2) → (ok = false → R' (.iface 115 (.int .i64 rule)) h2) → VX fs ms f_judge_must [.bool ok, .int .i64 rule] h2 K R' := fun ok rule K R' hk hr => must_x hk hr
 refine vc_seqV (vc_seq true ?_)
 set_option smartUnfolding false in conv => whnf
 refine ⟨_, ld1 k1 rfl, ?_⟩
 set_option smartUnfolding false in conv => whnf
 refine vc_condV ?_
 set_option smartUnfolding false in conv => whnf
 refine br (fun hc => ?_) (fun hc => ?_) <;> (try rw [hc]) <;> (set_option smartUnfolding false in conv => whnf)
 ·rw [if_pos hc] at hQ
  have hR6 : ∀ ok : Bool, (x.e != 0 || decide (x.a ≥ j.nx)) = ok → ok = false → R (.iface 115 (.int .i64 6)) h2 := fun ok he hf => hR 6 (by rw [if_pos hc, if_neg (by rw [he, hf]; simp)]) (by decide) h2 fr2
  have hQ6 : ∀ ok : Bool, (x.e != 0 || decide (x.a ≥ j.nx)) = ok → ok = true → Q (.tup []) h2 := fun ok he hf => hQ (by rw [if_pos (by rw [he, hf])]) h2 fr2
  clear hQ hR
  refine vc_seqV (vc_opsX (z := true) rfl ?_)
  set_option smartUnfolding false in conv => whnf
  refine ⟨_, ld1 k1 rfl, ?_⟩
  set_option smartUnfolding false in conv => whnf
  refine br (fun hc => ?_) (fun hc => ?_) <;> (try rw [hc]) <;> (set_option smartUnfolding false in conv => whnf)
  ·refine hM true 6 _ _ (fun ht => ?_) (fun hf => by simp at hf)
   set_option smartUnfolding false in conv => whnf
   refine vpC_sound (z := true) ?_
   set_option smartUnfolding false in conv => whnf
   exact ⟨_, rfl, hQ6 true (by rw [hc]; rfl) rfl⟩
  ·have he := hc
   refine ⟨_, ld1 k1 rfl, ?_⟩
   set_option smartUnfolding false in conv => whnf
   refine ⟨_, ld1 k3 rfl, ?_⟩
   set_option smartUnfolding false in conv => whnf
   refine hM _ 6 _ _ (fun ht => ?_) (fun hf => hR6 _ (by rw [he, Bool.false_or]) hf)
   set_option smartUnfolding false in conv => whnf
   refine vpC_sound (z := true) ?_
   set_option smartUnfolding false in conv => whnf
   exact ⟨_, rfl, hQ6 true (by rw [he, Bool.false_or]; exact ht) rfl⟩
 ·rw [if_neg (by rw [hc]; simp)] at hQ
  have hR7 : (x.k == 4 || decide (x.a < IntKind.i64.wrap (j.tm + t.d))) = false → R (.iface 115 (.int .i64 7)) h2 := fun hf => hR 7 (by rw [if_neg (by rw [hc]; simp), if_pos hf]) (by decide) h2 fr2
  have hR8 : (x.k == 4 || decide (x.a < IntKind.i64.wrap (j.tm + t.d))) = true → (x.k != 1 || decide (j.ran < t.w)) = false → R (.iface 115 (.int .i64 7)) h2 := fun ht hf => hR 7 (by rw [if_neg (by rw [hc]; simp), if_neg (by rw [ht]; simp), if_pos hf]) (by decide) h2 fr2
  have hQ8 : (x.k == 4 || decide (x.a < IntKind.i64.wrap (j.tm + t.d))) = true → (x.k != 1 || decide (j.ran < t.w)) = true → Q (.tup []) h2 := fun ht hf => hQ (by rw [if_neg (by rw [ht]; simp), if_neg (by rw [hf]; simp)]) h2 fr2
  clear hQ hR
  refine vpC_sound (z := true) ?_
  set_option smartUnfolding false in conv => whnf
  refine vc_seqV (VC.mono (Q := fun y e h => (y = .normal ∧ (x.k == 4 || decide (x.a < IntKind.i64.wrap (j.tm + t.d))) = true ∧ h = h2 ∧ AllAt e [(4, .ptr h0.next 0), (5, .ptr p2 0), (6, .ptr h1.next 0)]) ∨ ∃ v, y = .panic v ∧ R v h) ?_ ?_)
  ·refine vc_opsX (z := true) rfl ?_
   set_option smartUnfolding false in conv => whnf
   refine ⟨_, ld1 k1 rfl, ?_⟩
   set_option smartUnfolding false in conv => whnf
   refine br (fun hc => ?_) (fun hc => ?_) <;> (try rw [hc]) <;> (set_option smartUnfolding false in conv => whnf)
   ·refine hM true 7 _ _ (fun _ => ?_) (fun hf => by simp at hf)
    exact .inl ⟨rfl, by first | rfl | (rw [hc]; rfl), rfl, rfl, rfl, rfl, trivial⟩
   ·have he := hc
    refine ⟨_, ld1 k1 rfl, ?_⟩
    set_option smartUnfolding false in conv => whnf
    refine ⟨_, ld1 k3 rfl, ?_⟩
    set_option smartUnfolding false in conv => whnf
    refine ⟨_, ld1 k2 rfl, ?_⟩
    set_option smartUnfolding false in conv => whnf
    refine hM _ 7 _ _ (fun ht => ?_) (fun hf => ?_)
    ·exact .inl ⟨rfl, by first | (rw [he, Bool.false_or]; exact ht) | (rw [Bool.false_or]; exact ht), rfl, rfl, rfl, rfl, trivial⟩
    ·exact .inr ⟨_, rfl, hR7 (by rw [he, Bool.false_or]; exact hf)⟩
  rintro y e h (⟨rfl, h4, rfl, ha⟩ | ⟨v, rfl, hr⟩)
  ·have hR9 := hR8 h4
   have hQ9 := hQ8 h4
   clear hR8 hQ8 hR7
   show VC fs ms _ _ _ _ _ _
   refine vc_slots 4 _ ha ?_
   refine vc_opsX (z := true) rfl ?_
   set_option smartUnfolding false in conv => whnf
   refine ⟨_, ld1 k1 rfl, ?_⟩
   set_option smartUnfolding false in conv => whnf
   refine br (fun hc => ?_) (fun hc => ?_) <;> (try rw [hc]) <;> (set_option smartUnfolding false in conv => whnf)
   ·refine hM true 7 _ _ (fun _ => ?_) (fun hf => by simp at hf)
    exact ⟨_, rfl, hQ9 (by rw [hc]; rfl)⟩
   ·have he := hc
    refine ⟨_, ld1 k3 rfl, ?_⟩
    set_option smartUnfolding false in conv => whnf
    refine ⟨_, ld1 k2 rfl, ?_⟩
    set_option smartUnfolding false in conv => whnf
    refine hM _ 7 _ _ (fun ht => ?_) (fun hf => hR9 (by rw [he, Bool.false_or]; exact hf))
    exact ⟨_, rfl, hQ9 (by rw [he, Bool.false_or]; exact ht)⟩
  ·exact hr
end Ir
end Go.Proofs.Ytepdklcpagielaa
set_option maxRecDepth 100000
set_option linter.unusedSimpArgs false
set_option linter.unusedVariables false
namespace Go.Proofs.Ytepdklcpagielaa
open Go Ads
namespace Ir
def globS (cs : List Pt) (i : Nat) (t : Int) : Int := match cs[i]? with
 | some c => match c.ts[t.toNat]? with
  | some t => t.c
  | none => 0
 | none => 0
def WFp (cs : List Pt) (ps : List Pr) : Prop := ∀ (i : Nat) (hc : i < cs.length) (hp : i < ps.length), ps[i].has = true → 0 ≤ ps[i].task ∧ ps[i].task < (cs[i].ts.length : Nat)
def takenP (cs : List Pt) (own : Int) (g : Int) (i : Nat) (p : Pr) : Bool := (((i : Nat) : Int) != own && p.has) && (globS cs i p.task == g)
def takenN (cs : List Pt) (ps : List Pr) (own g : Int) : Nat → Bool
 | 0 => false
 | i + 1 => takenN cs ps own g i || (match ps[i]? with | some p => takenP cs own g i p | none => false)
def sharesS (cs : List Pt) (ps : List Pr) (p : Pr) (x : Nt) : Bool :=
 if (x.k == 1) = true then !p.has || p.task == x.t
 else if (x.k != 5 || x.e != 0) = true then true
 else if (x.n == 5) = true then p.has && p.task == x.t
 else if (x.n != 4) = true then true
 else if takenN cs ps x.p (globS cs x.p.toNat x.t) cs.length = true then false
 else !p.has && decide (globS cs x.p.toNat x.t > 0)

theorem idx_tkO {cs : List Pt} {i : Nat} (hi : i < cs.length) {t : Int} (h0 : 0 ≤ t) (h1 : t < (cs[i].ts.length : Nat)) : ∃ tk0 : Tk, pV (.iaddrS 8) [.fz cs[i].k (tks cs[i].ts), .int .i64 t] = some (.fp (tk tk0).cells 0) ∧ globS cs i t = tk0.c := by
 have hj : t.toNat < cs[i].ts.length := by omega
 refine ⟨cs[i].ts[t.toNat], ?_, ?_⟩
 ·have := idx_tk (k := cs[i].k) hj
  rwa [show ((t.toNat : Nat) : Int) = t by omega] at this
 ·simp [globS, List.getElem?_eq_getElem hi, List.getElem?_eq_getElem hj]

theorem takenN_mono {cs : List Pt} {ps : List Pr} {own g : Int} {j : Nat} (h : takenN cs ps own g j = true) : ∀ k, takenN cs ps own g (j + k) = true
 | 0 => h
 | k + 1 => by
  show (takenN cs ps own g (j + k) || _) = true
  rw [takenN_mono h k]
  rfl

theorem taken_l {h0 : Heap} {b C pn : Nat} {X : AV} {tl : List AV} {cs : List Pt} {ps : List Pr} (r : RS h0 b C X tl cs ps) (hb : b < h0.next) (hC : C < h0.next) (hwf : WFp cs ps) {x : Nt} {g : Int} {p5 : AV} (hpn : pn < h0.next) (gs : h0.get pn = some (.cells (nt x).cells true 0)) {B : Nat} {Q : AX → Env → Heap → Prop}
  (hF : takenN cs ps x.p g cs.length = false → ∀ e' h', Fr h0 h' [] → AllAt e' [(5, p5), (6, .int .i64 g)] → Q (.exit 1) e' h')
  (hT : takenN cs ps x.p g cs.length = true → ∀ e' h', Fr h0 h' [] → Tr.get e' 4 = some (.bool false) → Q .ret e' h') :
  ∀ (m j : Nat) (h : Heap) (env : Env), cs.length - j = m → j ≤ cs.length → takenN cs ps x.p g j = false → Fr h0 h [] → AllAt env [(0, .ptr b 0), (3, .ptr pn 0), (5, p5), (6, .int .i64 g), (79, .sl b 2 cs.length 4 false), (80, .int .i64 ((cs.length : Nat) : Int)), (81, .int .i64 ((j : Nat) : Int))] →
  VC fs ms B false (.loop L_judge_look_shares_0) env h Q := by
 intro m
 induction m using Nat.strongRecOn with
 | ind m ih =>
 intro j h env hm hj hi fr henv
 have hle := r.le
 have hlen := r.len
 refine vc_slots 7 _ henv ?_
 refine vc_loopV (vc_seq true ?_)
 set_option smartUnfolding false in conv => whnf
 refine vc_seq true ?_
 set_option smartUnfolding false in conv => whnf
 refine br (fun hc => ?_) (fun hc => ?_) <;> (try rw [hc]) <;> (set_option smartUnfolding false in conv => whnf)
 ·have hlt : j < cs.length := by have := of_decide_eq_true hc; omega
  have hjp : j < ps.length := by omega
  have rh := r.keep fr hb hC
  have hwh := rh.whole hjp (o := 2 + j * 23) (by omega)
  refine vc_seqV (vc_block ?_)
  refine vc_seq true ?_
  set_option smartUnfolding false in conv => whnf
  refine ⟨_, idx_slO hlt, ?_⟩
  set_option smartUnfolding false in conv => whnf
  refine ⟨_, hwh, ?_⟩
  set_option smartUnfolding false in conv => whnf
  refine eff_o (sto_o (n := 23) (v := .agg (prc ps[j])) get_new_same rfl (Nat.le_refl _) rfl) fun h1 e1 => ?_
  set_option smartUnfolding false in conv => whnf
  have gj : h1.get h.next = some (.cells (prc ps[j]) true 0) := by rw [e1, get_set_same]; rfl
  have fr1 : Fr h0 h1 [] := by rw [e1]; exact fr.trans (((Fr.refl h []).new (x := _)).setn (Nat.le_refl _))
  have gx : h1.get pn = some (.cells (nt x).cells true 0) := (fr1.keep pn hpn (by simp)).trans gs
  have r1 := r.keep fr1 hb hC
  clear e1
  have hnx : takenN cs ps x.p g (j + 1) = takenP cs x.p g j ps[j] := by
   show (takenN cs ps x.p g j || (match ps[j]? with | some p => takenP cs x.p g j p | none => false)) = _
   rw [hi, List.getElem?_eq_getElem hjp, Bool.false_or]
  have hno : takenP cs x.p g j ps[j] = false → ∀ e' h', Fr h0 h' [] → AllAt e' [(0, .ptr b 0), (3, .ptr pn 0), (5, p5), (6, .int .i64 g), (79, .sl b 2 cs.length 4 false), (80, .int .i64 ((cs.length : Nat) : Int)), (81, .int .i64 (((j + 1 : Nat) : Nat) : Int))] → VC fs ms B false (.loop L_judge_look_shares_0) e' h' Q := fun hf e' h' fr' he =>
   ih (cs.length - (j + 1)) (by omega) (j + 1) h' e' rfl (by omega) (by rw [hnx]; exact hf) fr' he
  have hyes : takenP cs x.p g j ps[j] = true → ∀ e' h', Fr h0 h' [] → Tr.get e' 4 = some (.bool false) → Q .ret e' h' := fun hf => hT (by
   have := takenN_mono (hnx.trans hf) (cs.length - (j + 1))
   rwa [show j + 1 + (cs.length - (j + 1)) = cs.length by omega] at this)
  have hw := hwf j hlt hjp
  clear ih hF hT hnx
  refine vc_seq true ?_
  set_option smartUnfolding false in conv => whnf
  refine ⟨_, ld1 gx rfl, ?_⟩
  set_option smartUnfolding false in conv => whnf
  refine br (fun hc => ?_) (fun hc => ?_) <;> (try rw [hc]) <;> (set_option smartUnfolding false in conv => whnf)
  ·have c1 := hc
   refine ⟨_, ld1 gj rfl, ?_⟩
   set_option smartUnfolding false in conv => whnf
   refine br (fun hc => ?_) (fun hc => ?_) <;> (try rw [hc]) <;> (set_option smartUnfolding false in conv => whnf)
   ·have c2 := hc
    obtain ⟨w0, w1⟩ := hw c2
    obtain ⟨tk0, t1, t2⟩ := idx_tkO hlt w0 w1
    refine ⟨_, ld1 r1.st rfl, ?_⟩
    set_option smartUnfolding false in conv => whnf
    refine ⟨_, idx_slO hlt, ?_⟩
    set_option smartUnfolding false in conv => whnf
    refine ⟨_, ld1 r1.cf (by rw [Nat.zero_add]; exact pts_at hlt (f := 2) (by omega)), ?_⟩
    set_option smartUnfolding false in conv => whnf
    refine ⟨_, ld1 gj rfl, ?_⟩
    set_option smartUnfolding false in conv => whnf
    refine ⟨_, t1, ?_⟩
    set_option smartUnfolding false in conv => whnf
    refine ⟨.int .i64 tk0.c, rfl, ?_⟩
    set_option smartUnfolding false in conv => whnf
    refine vpC_sound (z := true) ?_
    set_option smartUnfolding false in conv => whnf
    refine br (fun hc => ?_) (fun hc => ?_) <;> (try rw [hc]) <;> (set_option smartUnfolding false in conv => whnf)
    ·exact hyes (by rw [takenP, c1, c2, t2, hc]; rfl) _ _ fr1 rfl
    ·refine vpC_sound (z := true) ?_
     set_option smartUnfolding false in conv => whnf
     exact hno (by rw [takenP, t2, hc, Bool.and_false]) _ _ fr1 ⟨rfl, rfl, rfl, rfl, rfl, rfl, inc_slot (by omega), trivial⟩
   ·refine vpC_sound (z := true) ?_
    set_option smartUnfolding false in conv => whnf
    refine vpC_sound (z := true) ?_
    set_option smartUnfolding false in conv => whnf
    exact hno (by rw [takenP, hc, Bool.and_false, Bool.false_and]) _ _ fr1 ⟨rfl, rfl, rfl, rfl, rfl, rfl, inc_slot (by omega), trivial⟩
  ·refine vpC_sound (z := true) ?_
   set_option smartUnfolding false in conv => whnf
   refine vpC_sound (z := true) ?_
   set_option smartUnfolding false in conv => whnf
   exact hno (by rw [takenP, hc, Bool.false_and, Bool.false_and]) _ _ fr1 ⟨rfl, rfl, rfl, rfl, rfl, rfl, inc_slot (by omega), trivial⟩
 ·have hge : j = cs.length := by have := of_decide_eq_false hc; omega
  subst hge
  exact hF hi _ _ fr ⟨rfl, rfl, trivial⟩

theorem shares_c {h0 : Heap} {b C : Nat} {X : AV} {tl : List AV} {cs : List Pt} {ps : List Pr} (r : RS h0 b C X tl cs ps) (hb : b < h0.next) (hC : C < h0.next) (hwf : WFp cs ps) {i : Nat} (hi : i < cs.length) (x : Nt) (hxp : x.p = ((i : Nat) : Int)) (ht : x.k = 5 → 0 ≤ x.t ∧ x.t < (cs[i].ts.length : Nat)) {Q : AV → Heap → Prop}
  (hQ : ∀ h', Fr h0 h' [] → Q (.bool (sharesS cs ps (ps[i]'(by have := r.le; have := r.len; omega)) x)) h') : VD fs ms f_judge_look_shares [.ptr b 0, nt x] h0 Q := by
 have hip : i < ps.length := by have := r.le; have := r.len; omega
 have hlen := r.len
 refine vd_begin (af := C_judge_look_shares) rfl (Nat.le_of_ble_eq_true rfl) ?_
 set_option smartUnfolding false in conv => whnf
 refine vc_seq true ?_
 set_option smartUnfolding false in conv => whnf
 have gs : (h0.new (.cells (nt x).cells true 0)).get h0.next = some (.cells (nt x).cells true 0) := get_new_same
 have fr1 : Fr h0 (h0.new (.cells (nt x).cells true 0)) [] := (Fr.refl h0 []).new
 have n1 : h0.next < (h0.new (.cells (nt x).cells true 0)).next := Nat.lt_succ_self _
 have r1 := r.keep fr1 hb hC
 generalize h0.new (.cells (nt x).cells true 0) = h1 at *
 generalize hp : ps[i] = p at *
 refine vc_seq true ?_
 set_option smartUnfolding false in conv => whnf
 refine ⟨_, ld1 gs rfl, ?_⟩
 set_option smartUnfolding false in conv => whnf
 rw [hxp]
 refine ⟨_, idx_arr (by omega), ?_⟩
 set_option smartUnfolding false in conv => whnf
 have l21 : rV .load1 [.ptr b (0 + 2 + i * 23 + 21)] h1 = some (.bool p.has) := r1.ld hip (f := 21) (by omega) (by omega) (by rw [hp]; rfl)
 have l22 : rV .load1 [.ptr b (0 + 2 + i * 23 + 22)] h1 = some (.int .i64 p.task) := r1.ld hip (f := 22) (by omega) (by omega) (by rw [hp]; rfl)
 have hq := hQ h1 fr1
 refine vc_seqV (vc_block ?_)
 refine vc_seq true ?_
 set_option smartUnfolding false in conv => whnf
 refine ⟨_, ld1 gs rfl, ?_⟩
 set_option smartUnfolding false in conv => whnf
 cases k1 : (x.k == 1) with
 | true =>
  rw [sharesS, if_pos k1] at hq
  refine vpC_sound (z := true) ?_
  set_option smartUnfolding false in conv => whnf
  refine ⟨_, l21, ?_⟩
  set_option smartUnfolding false in conv => whnf
  refine br (fun hc => ?_) (fun hc => ?_) <;> (try rw [hc]) <;> (set_option smartUnfolding false in conv => whnf)
  ·rw [hc, Bool.true_or] at hq
   exact hq
  ·refine ⟨_, l22, ?_⟩
   set_option smartUnfolding false in conv => whnf
   refine ⟨_, ld1 gs rfl, ?_⟩
   set_option smartUnfolding false in conv => whnf
   rw [hc, Bool.false_or] at hq
   exact hq
 | false =>
  rw [sharesS, if_neg (by rw [k1]; simp)] at hq
  refine vc_condV ?_
  set_option smartUnfolding false in conv => whnf
  refine vc_seqV (VC.mono (Q := fun y e h => y = .normal ∧ h = h1 ∧ AllAt e [(0, .ptr b 0), (3, .ptr h0.next 0), (5, .ptr b (0 + 2 + i * 23)), (33, .bool (x.k != 5 || x.e != 0))]) ?_ ?_)
  ·refine vpC_sound (z := true) ?_
   set_option smartUnfolding false in conv => whnf
   refine ⟨_, ld1 gs rfl, ?_⟩
   set_option smartUnfolding false in conv => whnf
   refine br (fun hc => ?_) (fun hc => ?_) <;> (try rw [hc]) <;> (set_option smartUnfolding false in conv => whnf)
   ·exact ⟨rfl, rfl, rfl, rfl, rfl, by first | rfl | (rw [hc]; rfl), trivial⟩
   ·refine ⟨_, ld1 gs rfl, ?_⟩
    set_option smartUnfolding false in conv => whnf
    exact ⟨rfl, rfl, rfl, rfl, rfl, by first | rfl | (rw [hc]; rfl), trivial⟩
  rintro y e h ⟨rfl, rfl, he⟩
  show VC fs ms _ _ _ _ _ _
  refine vc_slots 6 _ he ?_
  clear he
  cases k5 : (x.k != 5 || x.e != 0) with
  | true =>
   rw [if_pos k5] at hq
   refine vpC_sound (z := true) ?_
   set_option smartUnfolding false in conv => whnf
   exact hq
  | false =>
   rw [if_neg (by rw [k5]; simp)] at hq
   refine vc_condV ?_
   set_option smartUnfolding false in conv => whnf
   refine vc_seq true ?_
   set_option smartUnfolding false in conv => whnf
   refine ⟨_, ld1 gs rfl, ?_⟩
   set_option smartUnfolding false in conv => whnf
   cases kn : (x.n == 5) with
   | true =>
    rw [if_pos kn] at hq
    refine vpC_sound (z := true) ?_
    set_option smartUnfolding false in conv => whnf
    refine ⟨_, l21, ?_⟩
    set_option smartUnfolding false in conv => whnf
    refine br (fun hc => ?_) (fun hc => ?_) <;> (try rw [hc]) <;> (set_option smartUnfolding false in conv => whnf)
    ·refine ⟨_, l22, ?_⟩
     set_option smartUnfolding false in conv => whnf
     refine ⟨_, ld1 gs rfl, ?_⟩
     set_option smartUnfolding false in conv => whnf
     rw [hc, Bool.true_and] at hq
     exact hq
    ·rw [hc, Bool.false_and] at hq
     exact hq
   | false =>
    rw [if_neg (by rw [kn]; simp)] at hq
    refine vc_condV ?_
    set_option smartUnfolding false in conv => whnf
    refine vc_seq true ?_
    set_option smartUnfolding false in conv => whnf
    refine ⟨_, ld1 gs rfl, ?_⟩
    set_option smartUnfolding false in conv => whnf
    cases k4 : (x.n != 4) with
    | true =>
     rw [if_pos k4] at hq
     refine vpC_sound (z := true) ?_
     set_option smartUnfolding false in conv => whnf
     exact hq
    | false =>
     rw [if_neg (by rw [k4]; simp)] at hq
     obtain ⟨w0, w1⟩ := ht (by simp at k5; exact k5.1)
     obtain ⟨tk0, t1, t2⟩ := idx_tkO hi w0 w1
     refine vpC_sound (z := true) ?_
     set_option smartUnfolding false in conv => whnf
     refine vc_seq true ?_
     set_option smartUnfolding false in conv => whnf
     refine ⟨_, ld1 r1.st rfl, ?_⟩
     set_option smartUnfolding false in conv => whnf
     refine ⟨_, ld1 gs rfl, ?_⟩
     set_option smartUnfolding false in conv => whnf
     rw [hxp]
     refine ⟨_, idx_slO hi, ?_⟩
     set_option smartUnfolding false in conv => whnf
     refine ⟨_, ld1 r1.cf (by rw [Nat.zero_add]; exact pts_at hi (f := 2) (by omega)), ?_⟩
     set_option smartUnfolding false in conv => whnf
     refine ⟨_, ld1 gs rfl, ?_⟩
     set_option smartUnfolding false in conv => whnf
     refine ⟨_, t1, ?_⟩
     set_option smartUnfolding false in conv => whnf
     refine ⟨.int .i64 tk0.c, rfl, ?_⟩
     set_option smartUnfolding false in conv => whnf
     rw [hxp, Int.toNat_natCast, t2] at hq
     clear hq
     refine vc_seqV (vc_seq true ?_)
     set_option smartUnfolding false in conv => whnf
     refine jall_c r1 ?_
     set_option smartUnfolding false in conv => whnf
     refine vc_block ?_
     have hs : sharesS cs ps p x = if takenN cs ps x.p tk0.c cs.length = true then false else !p.has && decide (tk0.c > 0) := by
      rw [sharesS, if_neg (by rw [k1]; simp), if_neg (by rw [k5]; simp), if_neg (by rw [kn]; simp), if_neg (by rw [k4]; simp), hxp, Int.toNat_natCast, t2]
     refine taken_l (x := x) (g := tk0.c) (p5 := .ptr b (0 + 2 + i * 23)) (pn := h0.next) r1 (Nat.lt_of_lt_of_le hb fr1.next) (Nat.lt_of_lt_of_le hC fr1.next) hwf n1 gs (fun hf e' h' fr' he => ?_) (fun hf e' h' fr' g4 => ?_) cs.length 0 _ _ rfl (Nat.zero_le _) rfl (Fr.refl _ []) ⟨rfl, rfl, rfl, rfl, rfl, rfl, rfl, trivial⟩
     ·rw [if_neg (by rw [hf]; simp)] at hs
      have r2 := r1.keep fr' (Nat.lt_of_lt_of_le hb fr1.next) (Nat.lt_of_lt_of_le hC fr1.next)
      have l2 : rV .load1 [.ptr b (0 + 2 + i * 23 + 21)] h' = some (.bool p.has) := r2.ld hip (f := 21) (by omega) (by omega) (by rw [hp]; rfl)
      have hq := hQ h' (fr1.trans fr')
      rw [hs] at hq
      show VC fs ms _ _ _ _ _ _
      refine vc_slots 4 _ he (vpC_sound (z := true) ?_)
      set_option smartUnfolding false in conv => whnf
      refine ⟨_, l2, ?_⟩
      set_option smartUnfolding false in conv => whnf
      refine br (fun hc => ?_) (fun hc => ?_) <;> (try rw [hc]) <;> (set_option smartUnfolding false in conv => whnf)
      ·rw [hc, Bool.true_and] at hq
       exact hq
      ·rw [hc, Bool.false_and] at hq
       exact hq
     ·rw [if_pos hf] at hs
      exact endV_one (v := .bool false) g4 (by rw [← hs]; exact hQ h' (fr1.trans fr'))
end Ir
end Go.Proofs.Ytepdklcpagielaa
set_option maxRecDepth 100000
set_option linter.unusedSimpArgs false
set_option linter.unusedVariables false
namespace Go.Proofs.Ytepdklcpagielaa
open Go Ads
namespace Ir
theorem pts_set : ∀ {cs : List Pt} {i f : Nat} (hi : i < cs.length) (v : List AV) (c' : Pt), f + v.length ≤ 3 → Heap.splice (pt cs[i]).cells f v = (pt c').cells → Heap.splice (flatCells (pts cs)) (i * 3 + f) v = flatCells (pts (cs.set i c'))
 | c :: cs, 0, f, hi, v, c', hf, hp => by
  show Heap.splice ((pt c).cells ++ flatCells (pts cs)) (0 * 3 + f) v = (pt c').cells ++ flatCells (pts cs)
  rw [Nat.zero_mul, Nat.zero_add, splice_in _ _ _ _ (by show f + v.length ≤ 3; exact hf)]
  exact congrArg (· ++ flatCells (pts cs)) hp
 | c :: cs, i + 1, f, hi, v, c', hf, hp => by
  have := pts_set (cs := cs) (i := i) (f := f) (by simpa using hi) v c' hf hp
  show Heap.splice ((pt c).cells ++ flatCells (pts cs)) ((i + 1) * 3 + f) v = (pt c).cells ++ flatCells (pts (cs.set i c'))
  rw [show (i + 1) * 3 + f = (pt c).cells.length + (i * 3 + f) by show _ = 3 + _; omega, splice_past, this]

section
variable {h : Heap} {b C : Nat} {X : AV} {tl : List AV} {cs : List Pt} {ps : List Pr}
theorem RS.putC {o i f : Nat} {v : AV} {c' : Pt} (r : RS h b C X tl cs ps) (hi : i < cs.length) (ho : o = i * 3 + f) (hn : v.cells.length = 1) (hf : f + 1 ≤ 3) (hfl : flatL v.cells = true) (hp : Heap.splice (pt cs[i]).cells f v.cells = (pt c').cells) :
  ∃ h', eV (.store 1) [.ptr C o, v] h = some (.undef, h') ∧ RS h' b C X tl (cs.set i c') ps ∧ Fr h h' [C] := by
 have hb : b ≠ C := r.ne
 have hfc : (flatCells (pts cs)).length = cs.length * 3 := by rw [flat_size (l := pts cs) (s := 3) (allSize_map (enc := pt) (n := 3) (fun _ => rfl) cs), len_pts]
 subst ho
 refine ⟨_, sto_o (es := 3) r.cf hn (by rw [hfc]; omega) hfl, ⟨?_, ?_, r.len, by rw [List.length_set]; exact r.le, r.ne⟩, (Fr.refl h [C]).set (by simp)⟩
 ·rw [get_set_ne hb, List.length_set]
  exact r.st
 ·rw [get_set_same, pts_set hi v.cells c' (by omega) hp]

theorem RS.ldc {o i f : Nat} {v : AV} (r : RS h b C X tl cs ps) (hi : i < cs.length) (hf : f < 3) (ho : o = i * 3 + f) (hv : (pt cs[i]).cells[f]? = some v) : rV .load1 [.ptr C o] h = some v := by
 subst ho
 exact ld1 r.cf ((pts_at hi hf).trans hv)
theorem RS.putS {o i f n : Nat} {v : AV} {p p' : Pr} (r : RS h b C X tl cs (ps.set i p)) (hi : i < ps.length) (ho : o = i * 23 + f + 2) (hn : v.cells.length = n) (hf : f + n ≤ 23) (hfl : flatL v.cells = true) (hp : Heap.splice (prc p) f v.cells = prc p') :
  ∃ h', eV (.store n) [.ptr b o, v] h = some (.undef, h') ∧ RS h' b C X tl cs (ps.set i p') ∧ Fr h h' [b] := by
 have := r.put (i := i) (p' := p') (by rw [List.length_set]; exact hi) ho hn hf hfl (by rw [List.getElem_set_self]; exact hp)
 rwa [List.set_set] at this
theorem RS.ldS {o i f : Nat} {v : AV} {p : Pr} (r : RS h b C X tl cs (ps.set i p)) (hi : i < ps.length) (hf : f < 23) (ho : o = i * 23 + f + 2) (hv : (prc p)[f]? = some v) : rV .load1 [.ptr b o] h = some v :=
 r.ld (by rw [List.length_set]; exact hi) hf ho (by rw [List.getElem_set_self]; exact hv)
theorem RS.toS {i : Nat} (r : RS h b C X tl cs ps) (hi : i < ps.length) : RS h b C X tl cs (ps.set i ps[i]) := by
 rw [List.set_getElem_self]
 exact r
end

def jb0 : Jb := ⟨false, 0, 0, 0⟩
def pr0 : Pr := ⟨false, 0, 0, 0, 0, jb0, jb0, jb0, jb0, false, 0⟩
def fresh (p : Pr) (c : Pt) (a : Int) : Pr := { p with per := c.per, bud := c.bud, ran := 0, ends := IntKind.i64.wrap (a + c.per) }
def chg (c : Pt) (n : Int) : Pt := { c with per := IntKind.i64.wrap (n.tdiv 100), bud := n.tmod 100 }
def turnS (c : Pt) (p : Pr) (x : Nt) : Pt × Pr × Bool :=
 if (x.k == 7) = true then (c, pr0, true)
 else if (x.k == 6) = true then (c, fresh { pr0 with inn := true } c x.a, false)
 else (chg c x.n, fresh p (chg c x.n) x.a, false)

theorem turn_c {h0 : Heap} {b C : Nat} {X : AV} {cs : List Pt} {ps : List Pr} {un now at_ : Int} {ran gone : Bool} (r : RS h0 b C X (tlJ un now ran gone at_) cs ps) (hb : b < h0.next) (hC : C < h0.next) {i o : Nat} (hi : i < cs.length) (hip : i < ps.length) (ho : o = i * 23 + 2) (x : Nt) (hxp : x.p = ((i : Nat) : Int)) (hk : wholeN x = true) {Q : AV → Heap → Prop}
  (hQ : ∀ h', RS h' b C X (tlJ un now ran (gone || (turnS cs[i] ps[i] x).2.2) at_) (cs.set i (turnS cs[i] ps[i] x).1) (ps.set i (turnS cs[i] ps[i] x).2.1) → Fr h0 h' [b, C] → Q (.tup []) h') : VD fs ms f_judge_look_turn [.ptr b 0, .ptr b o, nt x] h0 Q := by
 have hlen := r.len
 refine vd_begin (af := C_judge_look_turn) rfl (Nat.le_of_ble_eq_true rfl) ?_
 set_option smartUnfolding false in conv => whnf
 refine vc_seq true ?_
 set_option smartUnfolding false in conv => whnf
 have gs : (h0.new (.cells (nt x).cells true 0)).get h0.next = some (.cells (nt x).cells true 0) := get_new_same
 have fr1 : Fr h0 (h0.new (.cells (nt x).cells true 0)) [] := (Fr.refl h0 []).new
 have n1 : h0.next < (h0.new (.cells (nt x).cells true 0)).next := Nat.lt_succ_self _
 have r1 := r.keep fr1 hb hC
 generalize h0.new (.cells (nt x).cells true 0) = h1 at *
 refine vc_seq true ?_
 set_option smartUnfolding false in conv => whnf
 refine ⟨_, ld1 r1.st rfl, ?_⟩
 set_option smartUnfolding false in conv => whnf
 refine ⟨_, ld1 gs rfl, ?_⟩
 set_option smartUnfolding false in conv => whnf
 rw [hxp]
 refine ⟨_, idx_slO hi, ?_⟩
 set_option smartUnfolding false in conv => whnf
 have frc : ∀ {h'}, Fr h0 h' [] → Fr h0 h' [b, C] := fun f => ⟨f.next, fun c hc hn => f.keep c hc (by simp)⟩
 have frb : ∀ {h h'}, Fr h h' [b] → Fr h h' [b, C] := fun f => ⟨f.next, fun c hc hn => f.keep c hc (fun h => hn (by simp at h; simp [h]))⟩
 have frC : ∀ {h h'}, Fr h h' [C] → Fr h h' [b, C] := fun f => ⟨f.next, fun c hc hn => f.keep c hc (fun h => hn (by simp at h; simp [h]))⟩
 have kp : ∀ {h'}, Fr h1 h' [b, C] → h'.get h0.next = some (.cells (nt x).cells true 0) := fun f => (f.keep h0.next n1 (by simp; omega)).trans gs
 have r1 := r1.toS hip
 refine vc_seqV (VC.mono (Q := fun y e h => Fr h1 h [b, C] ∧ ((y = .ret ∧ turnS cs[i] ps[i] x = (cs[i], pr0, true) ∧ RS h b C X (tlJ un now ran true at_) cs (ps.set i pr0)) ∨
   (y = .normal ∧ ∃ cs' p', ∃ hi' : i < cs'.length, RS h b C X (tlJ un now ran gone at_) cs' (ps.set i p') ∧ cs.set i (turnS cs[i] ps[i] x).1 = cs' ∧ turnS cs[i] ps[i] x = (cs'[i], fresh p' cs'[i] x.a, false) ∧ AllAt e [(1, .ptr b o), (5, .ptr h0.next 0), (6, .ptr C (0 + i * 3))]))) ?_ ?_)
 ·refine vc_seq true ?_
  set_option smartUnfolding false in conv => whnf
  refine ⟨_, ld1 gs rfl, ?_⟩
  set_option smartUnfolding false in conv => whnf
  refine vc_block ?_
  refine vc_seq true ?_
  set_option smartUnfolding false in conv => whnf
  cases k7 : (x.k == 7) with
  | true =>
   have ht : turnS cs[i] ps[i] x = (cs[i], pr0, true) := by rw [turnS, if_pos k7]
   refine vpC_sound (z := true) ?_
   set_option smartUnfolding false in conv => whnf
   obtain ⟨h2, s2, r2, fr2⟩ := r1.putS (v := .agg (prc pr0)) (n := 23) (p' := pr0) hip (f := 0) (o := o) (by omega) rfl (by omega) rfl rfl
   refine eff_o s2 fun h2' e2 => ?_
   subst e2
   set_option smartUnfolding false in conv => whnf
   obtain ⟨h3, s3, r3, fr3⟩ := r2.putT (v := .bool true) (f := 3) (o := 0 + 97) (tl' := tlJ un now ran true at_) (by omega) rfl (by simp [tlJ]) rfl rfl
   refine eff_o s3 fun h3' e3 => ?_
   subst e3
   set_option smartUnfolding false in conv => whnf
   exact ⟨frb (fr2.trans fr3), .inl ⟨rfl, ht, r3⟩⟩
  | false =>
   refine vc_condV ?_
   set_option smartUnfolding false in conv => whnf
   refine vc_seq true ?_
   set_option smartUnfolding false in conv => whnf
   cases k6 : (x.k == 6) with
   | true =>
    have ht : turnS cs[i] ps[i] x = (cs[i], fresh { pr0 with inn := true } cs[i] x.a, false) := by rw [turnS, if_neg (by rw [k7]; simp), if_pos k6]
    refine vpC_sound (z := true) ?_
    set_option smartUnfolding false in conv => whnf
    obtain ⟨h2, s2, r2, fr2⟩ := r1.putS (v := .agg (prc { pr0 with inn := true })) (n := 23) (p' := { pr0 with inn := true }) hip (f := 0) (o := o) (by omega) rfl (by omega) rfl rfl
    refine eff_o s2 fun h2' e2 => ?_
    subst e2
    set_option smartUnfolding false in conv => whnf
    exact ⟨frb fr2, .inr ⟨rfl, cs, _, hi, r2, by rw [ht]; exact List.set_getElem_self hi, ht, rfl, rfl, rfl, trivial⟩⟩
   | false =>
    have k8 : (x.k == 8) = true := by simpa [wholeN, k6, k7] using hk
    have ht : turnS cs[i] ps[i] x = (chg cs[i] x.n, fresh ps[i] (chg cs[i] x.n) x.a, false) := by rw [turnS, if_neg (by rw [k7]; simp), if_neg (by rw [k6]; simp)]
    refine vc_condV ?_
    set_option smartUnfolding false in conv => whnf
    refine vc_seq true ?_
    set_option smartUnfolding false in conv => whnf
    rw [k8]
    refine vpC_sound (z := true) ?_
    set_option smartUnfolding false in conv => whnf
    refine ⟨_, ld1 gs rfl, ?_⟩
    set_option smartUnfolding false in conv => whnf
    refine ⟨.int .i64 (IntKind.i64.wrap (x.n.tdiv 100)), rfl, ?_⟩
    set_option smartUnfolding false in conv => whnf
    refine ⟨_, ld1 gs rfl, ?_⟩
    set_option smartUnfolding false in conv => whnf
    refine ⟨.int .i64 (x.n.tmod 100), rfl, ?_⟩
    set_option smartUnfolding false in conv => whnf
    obtain ⟨h2, s2, r2, fr2⟩ := r1.putC (v := .int .i64 (IntKind.i64.wrap (x.n.tdiv 100))) (c' := { cs[i] with per := IntKind.i64.wrap (x.n.tdiv 100) }) hi (f := 0) (o := 0 + i * 3 + 0) (by omega) rfl (by omega) rfl rfl
    refine eff_o s2 fun h2' e2 => ?_
    subst e2
    set_option smartUnfolding false in conv => whnf
    obtain ⟨h3, s3, r3, fr3⟩ := r2.putC (v := .int .i64 (x.n.tmod 100)) (i := i) (c' := chg cs[i] x.n) (by rw [List.length_set]; exact hi) (f := 1) (o := 0 + i * 3 + 1) (by omega) rfl (by omega) rfl (by rw [List.getElem_set_self]; rfl)
    refine eff_o s3 fun h3' e3 => ?_
    subst e3
    set_option smartUnfolding false in conv => whnf
    rw [List.set_set] at r3
    have gs2 := kp (frC fr2)
    refine ⟨winOk_of (by (set_option smartUnfolding false in conv => whnf); repeat' (first | exact trivial | (exact ⟨rfl, rfl, .inr ⟨_, _, rfl⟩⟩) | (refine ⟨rfl, rfl, .inl ⟨rfl, fun o ho => ?_⟩⟩; cases ho; first | rfl | exact ld1 gs rfl |  exact ld1 gs2 rfl) | (exact ⟨rfl, .inr ⟨_, _, rfl⟩⟩) | (refine ⟨rfl, .inl ⟨rfl, fun i o hi ho => ?_⟩⟩; cases hi; cases ho; first | rfl | exact ld1 gs rfl |  exact ld1 gs2 rfl) | (refine And.intro (fun hon => (Bool.false_ne_true hon).elim) ?_ <;> set_option smartUnfolding false in conv => whnf) | (refine And.intro (fun _ => ?_) ?_ <;> set_option smartUnfolding false in conv => whnf) | (refine And.intro ?_ ?_ <;> set_option smartUnfolding false in conv => whnf))), ?_⟩
    set_option smartUnfolding false in conv => whnf
    exact ⟨frC (fr2.trans fr3), .inr ⟨rfl, _, _, by rw [List.length_set]; exact hi, r3, by rw [ht], by rw [List.getElem_set_self]; exact ht, rfl, rfl, rfl, trivial⟩⟩
 rintro y e h ⟨fr, ⟨rfl, ht, r2⟩ | ⟨rfl, cs', p', hi', r2, hcs, ht, he⟩⟩
 ·have := hQ h
  rw [ht, Bool.or_true, List.set_getElem_self] at this
  exact this r2 ((frc fr1).trans fr)
 ·have hq := hQ
  rw [hcs, ht, Bool.or_false] at hq
  simp only at hq
  have gs := kp fr
  clear hQ ht hcs
  show VC fs ms _ _ _ _ _ _
  refine vc_slots 4 _ he ?_
  clear he
  generalize hcc : cs'[i] = c at *
  have l0 : rV .load1 [.ptr C (0 + i * 3 + 0)] h = some (.int .i64 c.per) := r2.ldc hi' (f := 0) (by omega) (by omega) (by rw [hcc]; rfl)
  have l1 : rV .load1 [.ptr C (0 + i * 3 + 1)] h = some (.int .i64 c.bud) := r2.ldc hi' (f := 1) (by omega) (by omega) (by rw [hcc]; rfl)
  refine vc_seq true ?_
  set_option smartUnfolding false in conv => whnf
  refine ⟨_, l0, ?_⟩
  set_option smartUnfolding false in conv => whnf
  refine ⟨_, l1, ?_⟩
  set_option smartUnfolding false in conv => whnf
  obtain ⟨h3, s3, r3, fr3⟩ := r2.putS (v := .int .i64 c.per) (n := 1) (p' := { p' with per := c.per }) hip (f := 1) (o := o + 1) (by omega) rfl (by omega) rfl rfl
  refine eff_o s3 fun h3' e3 => ?_
  subst e3
  set_option smartUnfolding false in conv => whnf
  obtain ⟨h4, s4, r4, fr4⟩ := r3.putS (v := .int .i64 c.bud) (n := 1) (p' := { p' with per := c.per, bud := c.bud }) hip (f := 2) (o := o + 2) (by omega) rfl (by omega) rfl rfl
  refine eff_o s4 fun h4' e4 => ?_
  subst e4
  set_option smartUnfolding false in conv => whnf
  have gs4 := kp (fr.trans (frb (fr3.trans fr4)))
  have l4 : rV .load1 [.ptr C (0 + i * 3 + 0)] h4' = some (.int .i64 c.per) := r4.ldc hi' (f := 0) (by omega) (by omega) (by rw [hcc]; rfl)
  refine vpC_sound (z := true) ?_
  set_option smartUnfolding false in conv => whnf
  refine ⟨_, ld1 gs4 rfl, ?_⟩
  set_option smartUnfolding false in conv => whnf
  refine ⟨_, l4, ?_⟩
  set_option smartUnfolding false in conv => whnf
  obtain ⟨h5, s5, r5, fr5⟩ := r4.putS (v := .int .i64 0) (n := 1) (p' := { p' with per := c.per, bud := c.bud, ran := 0 }) hip (f := 4) (o := o + 4) (by omega) rfl (by omega) rfl rfl
  refine eff_o s5 fun h5' e5 => ?_
  subst e5
  set_option smartUnfolding false in conv => whnf
  obtain ⟨h6, s6, r6, fr6⟩ := r5.putS (v := .int .i64 (IntKind.i64.wrap (x.a + c.per))) (n := 1) (p' := fresh p' c x.a) hip (f := 3) (o := o + 3) (by omega) rfl (by omega) rfl rfl
  refine eff_o s6 fun h6' e6 => ?_
  subst e6
  set_option smartUnfolding false in conv => whnf
  have gs5 := kp (fr.trans (frb (fr3.trans (fr4.trans fr5))))
  refine ⟨winOk_of (by (set_option smartUnfolding false in conv => whnf); repeat' (first | exact trivial | (exact ⟨rfl, rfl, .inr ⟨_, _, rfl⟩⟩) | (refine ⟨rfl, rfl, .inl ⟨rfl, fun o ho => ?_⟩⟩; cases ho; first | rfl | exact ld1 gs4 rfl |  exact ld1 gs5 rfl) | (exact ⟨rfl, .inr ⟨_, _, rfl⟩⟩) | (refine ⟨rfl, .inl ⟨rfl, fun i o hi ho => ?_⟩⟩; cases hi; cases ho; first | rfl | exact ld1 gs4 rfl |  exact ld1 gs5 rfl) | (refine And.intro (fun hon => (Bool.false_ne_true hon).elim) ?_ <;> set_option smartUnfolding false in conv => whnf) | (refine And.intro (fun _ => ?_) ?_ <;> set_option smartUnfolding false in conv => whnf) | (refine And.intro ?_ ?_ <;> set_option smartUnfolding false in conv => whnf))), ?_⟩
  set_option smartUnfolding false in conv => whnf
  exact hq _ r6 ((frc fr1).trans (fr.trans (frb (fr3.trans (fr4.trans (fr5.trans fr6))))))
end Ir
end Go.Proofs.Ytepdklcpagielaa
set_option maxRecDepth 100000
set_option linter.unusedSimpArgs false
set_option linter.unusedVariables false
namespace Go.Proofs.Ytepdklcpagielaa
open Go Ads
namespace Ir
theorem jput_is {p : Pr} {k : Nat} (hk : k < 4) (a : Bool) : Heap.splice (prc p) (5 + k * 4 + 0) [.bool a] = prc (p.setJob k { p.job k with is := a }) := by
 match k, hk with
 | 0, _ => rfl
 | 1, _ => rfl
 | 2, _ => rfl
 | 3, _ => rfl
theorem jput_ran {p : Pr} {k : Nat} (hk : k < 4) (a : Int) : Heap.splice (prc p) (5 + k * 4 + 2) [.int .i64 a] = prc (p.setJob k { p.job k with ran := a }) := by
 match k, hk with
 | 0, _ => rfl
 | 1, _ => rfl
 | 2, _ => rfl
 | 3, _ => rfl
theorem jput_all {p : Pr} {k : Nat} (hk : k < 4) (j : Jb) : Heap.splice (prc p) (5 + k * 4 + 0) (jbc j) = prc (p.setJob k j) := by
 match k, hk with
 | 0, _ => rfl
 | 1, _ => rfl
 | 2, _ => rfl
 | 3, _ => rfl
def doesS (p : Pr) (x : Nt) (t : Tk) : Pr :=
 if (x.k == 1) = true then p.setJob x.t.toNat { p.job x.t.toNat with ran := IntKind.i64.wrap ((p.job x.t.toNat).ran + 1) }
 else if (x.k == 2) = true then (if (x.e == 0) = true then p.setJob x.t.toNat ⟨true, x.a, 0, IntKind.i64.wrap (x.a + t.p)⟩ else p)
 else if (x.k == 3 || x.k == 4) = true then { p.setJob x.t.toNat { p.job x.t.toNat with is := false } with has := p.has && p.task != x.t }
 else if (x.k == 5) = true then (if (x.e == 0 && (x.n == 4 || x.n == 5)) = true then { p with has := x.n == 4, task := x.t } else p)
 else p
theorem setJob_has (p : Pr) (k : Nat) (j : Jb) : (p.setJob k j).has = p.has ∧ (p.setJob k j).task = p.task := by
 unfold Pr.setJob
 split <;> exact ⟨rfl, rfl⟩
theorem prc_has (p : Pr) : (prc p)[21]? = some (.bool p.has) ∧ (prc p)[22]? = some (.int .i64 p.task) := ⟨rfl, rfl⟩

theorem does_c {h0 : Heap} {b C : Nat} {X : AV} {tl : List AV} {cs : List Pt} {ps : List Pr} (r : RS h0 b C X tl cs ps) (hb : b < h0.next) (hC : C < h0.next) {i o : Nat} (hi : i < ps.length) (ho : o = i * 23 + 2) (x : Nt) (t : Tk) (ht : 0 ≤ x.t ∧ x.t < 4) {Q : AV → Heap → Prop}
  (hQ : ∀ h', RS h' b C X tl cs (ps.set i (doesS ps[i] x t)) → Fr h0 h' [b] → Q (.tup []) h') : VD fs ms f_judge_part_does [.ptr b o, nt x, tk t] h0 Q := by
 have hjx : x.t = ((x.t.toNat : Nat) : Int) := by omega
 have hj4 : x.t.toNat < 4 := by omega
 refine vd_begin (af := C_judge_part_does) rfl (Nat.le_of_ble_eq_true rfl) ?_
 set_option smartUnfolding false in conv => whnf
 refine vc_seq true ?_
 set_option smartUnfolding false in conv => whnf
 have g1 : ((h0.new (.cells (nt x).cells true 0)).new (.cells (tk t).cells true 0)).get h0.next = some (.cells (nt x).cells true 0) := (get_new_ne (Nat.lt_succ_self _)).trans get_new_same
 have g2 : ((h0.new (.cells (nt x).cells true 0)).new (.cells (tk t).cells true 0)).get (h0.new (.cells (nt x).cells true 0)).next = some (.cells (tk t).cells true 0) := get_new_same
 have fr1 : Fr h0 ((h0.new (.cells (nt x).cells true 0)).new (.cells (tk t).cells true 0)) [] := ((Fr.refl h0 []).new).new
 have n1 : h0.next < ((h0.new (.cells (nt x).cells true 0)).new (.cells (tk t).cells true 0)).next := by show h0.next < h0.next + 1 + 1; omega
 generalize (h0.new (.cells (nt x).cells true 0)).new (.cells (tk t).cells true 0) = h1 at *
 generalize (h0.new (.cells (nt x).cells true 0)).next = p2 at *
 have frb : ∀ {h'}, Fr h0 h' [] → Fr h0 h' [b] := fun f => ⟨f.next, fun c hc hn => f.keep c hc (by simp)⟩
 have r1 := (r.keep fr1 hb hC).toS hi
 have k1 : ∀ {h'}, Fr h1 h' [b] → h'.get h0.next = some (.cells (nt x).cells true 0) := fun f => (f.keep h0.next n1 (by simp; omega)).trans g1
 have hQ : ∀ h', RS h' b C X tl cs (ps.set i (doesS ps[i] x t)) → Fr h1 h' [b] → Q (.tup []) h' := fun h' r' f => hQ h' r' ((frb fr1).trans f)
 unfold doesS at hQ
 generalize hp : ps[i] = p at *
 generalize hjn : x.t.toNat = jn at *
 refine vc_seq true ?_
 set_option smartUnfolding false in conv => whnf
 refine ⟨_, ld1 g1 rfl, ?_⟩
 set_option smartUnfolding false in conv => whnf
 rw [hjx]
 refine ⟨_, idx_arr hj4, ?_⟩
 set_option smartUnfolding false in conv => whnf
 refine vc_seq true ?_
 set_option smartUnfolding false in conv => whnf
 refine ⟨_, ld1 g1 rfl, ?_⟩
 set_option smartUnfolding false in conv => whnf
 refine vc_block ?_
 refine vc_seq true ?_
 set_option smartUnfolding false in conv => whnf
 cases e1 : (x.k == 1) with
 | true =>
  rw [if_pos e1] at hQ
  refine vpC_sound (z := true) ?_
  set_option smartUnfolding false in conv => whnf
  refine ⟨_, r1.ldS hi (f := 5 + jn * 4 + 2) (v := .int .i64 (p.job jn).ran) (by omega) (by omega) (by rw [job_cell hj4 (by omega)]; rfl), ?_⟩
  set_option smartUnfolding false in conv => whnf
  obtain ⟨h2, s2, r2, fr2⟩ := r1.putS (v := .int .i64 (IntKind.i64.wrap ((p.job jn).ran + 1))) (n := 1) hi (f := 5 + jn * 4 + 2) (o := o + 5 + jn * 4 + 2) (by omega) rfl (by omega) rfl (jput_ran hj4 _)
  refine eff_o s2 fun h2' e2 => ?_
  subst e2
  set_option smartUnfolding false in conv => whnf
  exact hQ _ r2 fr2
 | false =>
  rw [if_neg (by rw [e1]; simp)] at hQ
  refine vc_condV ?_
  set_option smartUnfolding false in conv => whnf
  refine vc_seq true ?_
  set_option smartUnfolding false in conv => whnf
  cases e2 : (x.k == 2) with
  | true =>
   rw [if_pos e2] at hQ
   refine vpC_sound (z := true) ?_
   set_option smartUnfolding false in conv => whnf
   refine ⟨_, ld1 g1 rfl, ?_⟩
   set_option smartUnfolding false in conv => whnf
   refine br (fun hc => ?_) (fun hc => ?_) <;> (try rw [hc]) <;> (set_option smartUnfolding false in conv => whnf)
   ·rw [if_pos hc] at hQ
    refine ⟨_, ld1 g1 rfl, ?_⟩
    set_option smartUnfolding false in conv => whnf
    refine ⟨_, ld1 g1 rfl, ?_⟩
    set_option smartUnfolding false in conv => whnf
    refine ⟨_, ld1 g2 rfl, ?_⟩
    set_option smartUnfolding false in conv => whnf
    obtain ⟨h2, s2, r2, fr2⟩ := r1.putS (v := .agg (jbc ⟨true, x.a, 0, IntKind.i64.wrap (x.a + t.p)⟩)) (n := 4) hi (f := 5 + jn * 4 + 0) (o := o + 5 + jn * 4) (by omega) rfl (by omega) rfl (jput_all hj4 _)
    refine eff_o s2 fun h2' e2 => ?_
    subst e2
    set_option smartUnfolding false in conv => whnf
    exact hQ _ r2 fr2
   ·rw [if_neg (by rw [hc]; simp)] at hQ
    exact hQ _ r1 (Fr.refl _ _)
  | false =>
   rw [if_neg (by rw [e2]; simp)] at hQ
   refine vc_condV ?_
   set_option smartUnfolding false in conv => whnf
   refine vc_seqV (VC.mono (Q := fun y e h => y = .normal ∧ h = h1 ∧ AllAt e [(0, .ptr b o), (4, .ptr h0.next 0), (6, .ptr b (o + 5 + jn * 4)), (14, .int .i64 x.k), (39, .bool (x.k == 3 || x.k == 4))]) ?_ ?_)
   ·refine vpC_sound (z := true) ?_
    set_option smartUnfolding false in conv => whnf
    refine br (fun hc => ?_) (fun hc => ?_) <;> (try rw [hc]) <;> (set_option smartUnfolding false in conv => whnf)
    ·exact ⟨rfl, rfl, rfl, rfl, rfl, rfl, by first | rfl | (rw [hc]; rfl), trivial⟩
    ·exact ⟨rfl, rfl, rfl, rfl, rfl, rfl, by first | rfl | (rw [hc]; rfl), trivial⟩
   rintro y e h1 ⟨rfl, rfl, he⟩
   show VC fs ms _ _ _ _ _ _
   refine vc_slots 7 _ he ?_
   clear he
   cases e3 : (x.k == 3 || x.k == 4) with
   | true =>
    rw [if_pos e3] at hQ
    refine vc_condV ?_
    set_option smartUnfolding false in conv => whnf
    refine vc_seq true ?_
    set_option smartUnfolding false in conv => whnf
    obtain ⟨h2, s2, r2, fr2⟩ := r1.putS (v := .bool false) (n := 1) hi (f := 5 + jn * 4 + 0) (o := o + 5 + jn * 4 + 0) (by omega) rfl (by omega) rfl (jput_is hj4 _)
    refine eff_o s2 fun h2' e2 => ?_
    subst e2
    set_option smartUnfolding false in conv => whnf
    obtain ⟨q1, q2⟩ := setJob_has p jn { p.job jn with is := false }
    generalize hq : p.setJob jn { p.job jn with is := false } = q at *
    obtain ⟨c1, c2⟩ := prc_has q
    refine vpC_sound (z := true) ?_
    set_option smartUnfolding false in conv => whnf
    refine ⟨_, r2.ldS hi (f := 21) (by omega) (by omega) c1, ?_⟩
    set_option smartUnfolding false in conv => whnf
    rw [q1] at *
    rw [q2] at *
    refine br (fun hc => ?_) (fun hc => ?_) <;> (try rw [hc]) <;> (set_option smartUnfolding false in conv => whnf)
    ·rw [hc, Bool.true_and] at hQ
     refine ⟨_, r2.ldS hi (f := 22) (by omega) (by omega) c2, ?_⟩
     set_option smartUnfolding false in conv => whnf
     refine ⟨_, ld1 (k1 fr2) rfl, ?_⟩
     set_option smartUnfolding false in conv => whnf
     obtain ⟨h3, s3, r3, fr3⟩ := r2.putS (v := .bool (p.task != x.t)) (n := 1) (p' := { q with has := p.task != x.t }) hi (f := 21) (o := o + 21) (by omega) rfl (by omega) rfl rfl
     refine eff_o s3 fun h3' e3 => ?_
     subst e3
     set_option smartUnfolding false in conv => whnf
     exact hQ _ r3 (fr2.trans fr3)
    ·rw [hc, Bool.false_and] at hQ
     obtain ⟨h3, s3, r3, fr3⟩ := r2.putS (v := .bool false) (n := 1) (p' := { q with has := false }) hi (f := 21) (o := o + 21) (by omega) rfl (by omega) rfl rfl
     refine eff_o s3 fun h3' e3 => ?_
     subst e3
     set_option smartUnfolding false in conv => whnf
     exact hQ _ r3 (fr2.trans fr3)
   | false =>
    rw [if_neg (by rw [e3]; simp)] at hQ
    refine vc_condV ?_
    set_option smartUnfolding false in conv => whnf
    refine vc_seq true ?_
    set_option smartUnfolding false in conv => whnf
    cases e5 : (x.k == 5) with
    | true =>
     rw [if_pos e5] at hQ
     refine vc_condV ?_
     set_option smartUnfolding false in conv => whnf
     refine vc_seqV (VC.mono (Q := fun y e h => y = .normal ∧ h = h1 ∧ AllAt e [(0, .ptr b o), (4, .ptr h0.next 0), (75, .bool (x.e == 0 && (x.n == 4 || x.n == 5)))]) ?_ ?_)
     ·refine vpC_sound (z := true) ?_
      set_option smartUnfolding false in conv => whnf
      refine ⟨_, ld1 g1 rfl, ?_⟩
      set_option smartUnfolding false in conv => whnf
      refine br (fun hc => ?_) (fun hc => ?_) <;> (try rw [hc]) <;> (set_option smartUnfolding false in conv => whnf)
      ·refine ⟨_, ld1 g1 rfl, ?_⟩
       set_option smartUnfolding false in conv => whnf
       have h1c := hc
       refine br (fun hc => ?_) (fun hc => ?_) <;> (try rw [hc]) <;> (set_option smartUnfolding false in conv => whnf)
       ·exact ⟨rfl, rfl, rfl, rfl, by first | rfl | (rw [h1c, hc]; rfl), trivial⟩
       ·refine ⟨_, ld1 g1 rfl, ?_⟩
        set_option smartUnfolding false in conv => whnf
        exact ⟨rfl, rfl, rfl, rfl, by first | rfl | (rw [h1c, hc]; rfl), trivial⟩
      ·exact ⟨rfl, rfl, rfl, rfl, by first | rfl | (rw [hc]; rfl), trivial⟩
     rintro y e h1 ⟨rfl, rfl, he⟩
     show VC fs ms _ _ _ _ _ _
     refine vc_slots 7 _ he ?_
     clear he
     cases e6 : (x.e == 0 && (x.n == 4 || x.n == 5)) with
     | true =>
      rw [if_pos e6] at hQ
      refine vpC_sound (z := true) ?_
      set_option smartUnfolding false in conv => whnf
      refine ⟨_, ld1 g1 rfl, ?_⟩
      set_option smartUnfolding false in conv => whnf
      refine ⟨_, ld1 g1 rfl, ?_⟩
      set_option smartUnfolding false in conv => whnf
      obtain ⟨h2, s2, r2, fr2⟩ := r1.putS (v := .bool (x.n == 4)) (n := 1) (p' := { p with has := x.n == 4 }) hi (f := 21) (o := o + 21) (by omega) rfl (by omega) rfl rfl
      refine eff_o s2 fun h2' e2 => ?_
      subst e2
      set_option smartUnfolding false in conv => whnf
      obtain ⟨h3, s3, r3, fr3⟩ := r2.putS (v := .int .i64 x.t) (n := 1) (p' := { p with has := x.n == 4, task := x.t }) hi (f := 22) (o := o + 22) (by omega) rfl (by omega) rfl rfl
      refine eff_o s3 fun h3' e3 => ?_
      subst e3
      set_option smartUnfolding false in conv => whnf
      have g3 := k1 fr2
      refine ⟨winOk_of (by (set_option smartUnfolding false in conv => whnf); repeat' (first | exact trivial | (exact ⟨rfl, rfl, .inr ⟨_, _, rfl⟩⟩) | (refine ⟨rfl, rfl, .inl ⟨rfl, fun o ho => ?_⟩⟩; cases ho; first | rfl | exact ld1 g1 rfl |  exact ld1 g3 rfl) | (exact ⟨rfl, .inr ⟨_, _, rfl⟩⟩) | (refine ⟨rfl, .inl ⟨rfl, fun i o hi ho => ?_⟩⟩; cases hi; cases ho; first | rfl | exact ld1 g1 rfl |  exact ld1 g3 rfl) | (refine And.intro (fun hon => (Bool.false_ne_true hon).elim) ?_ <;> set_option smartUnfolding false in conv => whnf) | (refine And.intro (fun _ => ?_) ?_ <;> set_option smartUnfolding false in conv => whnf) | (refine And.intro ?_ ?_ <;> set_option smartUnfolding false in conv => whnf))), ?_⟩
      set_option smartUnfolding false in conv => whnf
      exact hQ _ r3 (fr2.trans fr3)
     | false =>
      rw [if_neg (by rw [e6]; simp)] at hQ
      refine vpC_sound (z := true) ?_
      set_option smartUnfolding false in conv => whnf
      exact hQ _ r1 (Fr.refl _ _)
    | false =>
     rw [if_neg (by rw [e5]; simp)] at hQ
     refine vpC_sound (z := true) ?_
     set_option smartUnfolding false in conv => whnf
     exact hQ _ r1 (Fr.refl _ _)
end Ir
end Go.Proofs.Ytepdklcpagielaa
set_option maxRecDepth 100000
set_option linter.unusedSimpArgs false
set_option linter.unusedVariables false
namespace Go.Proofs.Ytepdklcpagielaa
open Go Ads
namespace Ir
abbrev Ks := List Pt × List Pr × Int × Bool × Bool
def pt0 : Pt := ⟨0, 0, 0, []⟩
def tk00 : Tk := ⟨0, 0, 0, 0, 0, 0, 0, 0⟩
def noteC (cs : List Pt) (ps : List Pr) (now : Int) (ran gone : Bool) (i : Nat) (c : Pt) (p : Pr) (t : Tk) (x : Nt) : Int ⊕ Ks :=
 if (p.inn != (x.k == 6)) = false then .inl 2
 else if (x.k != 1 || (!ran && optI (couldN ps cs.length) == x.p)) = false then .inl 3
 else if thereS p x = false then .inl 5
 else if wholeN x = true then .inr (cs.set i (turnS c p x).1, ps.set i (turnS c p x).2.1, now, ran, gone || (turnS c p x).2.2)
 else if (x.t != -1 && timelyS p x t != 0) = true then .inl (timelyS p x t)
 else if sharesS cs ps p x = false then .inl 8
 else
  let p1 := if (x.k == 1) = true then { p with ran := IntKind.i64.wrap (p.ran + 1) } else p
  .inr (cs, ps.set i (if (x.t != -1) = true then doesS p1 x t else p1), now, ran || x.k == 1, gone)
def noteB (cs : List Pt) (ps : List Pr) (now : Int) (ran gone : Bool) (x : Nt) : Int ⊕ Ks :=
 noteC cs ps now ran gone x.p.toNat (cs.getD x.p.toNat pt0) (ps.getD x.p.toNat pr0) ((cs.getD x.p.toNat pt0).ts.getD x.t.toNat tk00) x
def noteS (un : Int) (s : Ks) (x : Nt) : Int ⊕ Ks :=
 if shapedS s.1 s.2.2.1 un x = false then .inl 1
 else match toS s.1.length (x.a - s.2.2.1).toNat s.2.1 s.2.2.1 s.2.2.2.1 s.2.2.2.2 with
 | .inl r => .inl r
 | .inr (ps, now, ran, gone) => noteB s.1 ps now ran gone x

theorem shaped_yes {cs : List Pt} {now un : Int} {x : Nt} (h : shapedS cs now un x = true) : now ≤ x.a ∧ x.a ≤ un ∧ 1 ≤ x.k ∧ x.k ≤ 8 ∧ 0 ≤ x.p ∧ x.p < (cs.length : Nat) ∧ (wholeN x = true → x.t = 0) ∧
  (wholeN x = false → (0 ≤ x.t ∨ (x.t = -1 ∧ x.k = 1)) ∧ x.t < (tasksAt cs x.p : Nat)) := by
 unfold shapedS at h
 split at h
 ·simp at h
 ·rename_i h1
  simp only [Bool.or_eq_true, decide_eq_true_eq, not_or] at h1
  refine ⟨by omega, by omega, by omega, by omega, by omega, by omega, fun hw => ?_, fun hw => ?_⟩
  ·rw [if_pos hw] at h
   simpa using h
  ·rw [if_neg (by rw [hw]; simp)] at h
   simp only [Bool.and_eq_true, Bool.or_eq_true, decide_eq_true_eq, beq_iff_eq] at h
   exact ⟨h.1, h.2⟩

/- What a tick that goes by leaves as it is. -/
def sameH (ps qs : List Pr) : Prop := qs.length = ps.length ∧ ∀ (i : Nat) (h1 : i < ps.length) (h2 : i < qs.length), qs[i].has = ps[i].has ∧ qs[i].task = ps[i].task
theorem sameH.refl (ps : List Pr) : sameH ps ps := ⟨rfl, fun _ _ _ => ⟨rfl, rfl⟩⟩
theorem sameH.trans {a b c : List Pr} (h : sameH a b) (h' : sameH b c) : sameH a c :=
 ⟨h'.1.trans h.1, fun i h1 h2 => ⟨(h'.2 i (h.1 ▸ h1) h2).1.trans (h.2 i h1 (h.1 ▸ h1)).1, (h'.2 i (h.1 ▸ h1) h2).2.trans (h.2 i h1 (h.1 ▸ h1)).2⟩⟩
theorem sameH.wf {cs : List Pt} {ps qs : List Pr} (h : sameH ps qs) (w : WFp cs ps) : WFp cs qs := fun i hc hp hh => by
 have hp' : i < ps.length := h.1 ▸ hp
 obtain ⟨a, b⟩ := h.2 i hp' hp
 rw [b]
 exact w i hc hp' (a ▸ hh)
theorem stepE_same {nw : Int} {p p' : Pr} (h : stepE nw p = some p') : p'.has = p.has ∧ p'.task = p.task := by
 unfold stepE at h
 split at h
 ·split at h
  ·simp only [Option.some.injEq] at h; subst h; exact ⟨rfl, rfl⟩
  ·simp at h
 ·simp only [Option.some.injEq] at h; subst h; exact ⟨rfl, rfl⟩
theorem ends_same {nw : Int} {ps : List Pr} : ∀ {n : Nat} {qs : List Pr}, endsN nw ps n = some qs → sameH ps qs
 | 0, qs, h => by
  simp only [endsN, Option.some.injEq] at h
  subst h
  exact .refl ps
 | n + 1, qs, h => by
  simp only [endsN] at h
  split at h
  ·simp at h
  ·rename_i rs hr
   have i1 := ends_same hr
   split at h
   ·simp only [Option.some.injEq] at h; subst h; exact i1
   ·rename_i p hp
    obtain ⟨hlt, hpe⟩ := List.getElem?_eq_some_iff.1 hp
    simp only [Option.map_eq_some_iff] at h
    obtain ⟨p', h1, h2⟩ := h
    subst h2
    obtain ⟨s1, s2⟩ := stepE_same h1
    refine i1.trans ⟨List.length_set, fun i a b => ?_⟩
    rw [List.getElem_set]
    split
    ·rename_i he; subst he; rw [s1, s2, hpe]; exact ⟨rfl, rfl⟩
    ·exact ⟨rfl, rfl⟩
theorem byS_same {n : Nat} {ps qs : List Pr} {now : Int} {ran gone : Bool} (h : byS n ps now ran gone = .inr qs) : sameH ps qs := by
 unfold byS at h
 split at h
 ·simp at h
 ·split at h
  ·simp at h
  ·split at h
   ·simp at h
   ·rename_i rs hr
    simp only [Sum.inr.injEq] at h
    subst h
    exact ends_same hr
theorem toS_same {n : Nat} : ∀ {k : Nat} {ps : List Pr} {now : Int} {ran gone : Bool} {s : Kn}, toS n k ps now ran gone = .inr s → sameH ps s.1 ∧ s.2.1 = now + (k : Nat)
 | 0, ps, now, ran, gone, s, h => by
  simp only [toS, Sum.inr.injEq] at h
  subst h
  exact ⟨.refl ps, by simp⟩
 | k + 1, ps, now, ran, gone, s, h => by
  simp only [toS] at h
  split at h
  ·simp at h
  ·rename_i qs hq
   obtain ⟨a, b⟩ := toS_same h
   exact ⟨(byS_same hq).trans a, by rw [b]; omega⟩

theorem note_x {h0 : Heap} {b C : Nat} {X : AV} {cs : List Pt} {ps : List Pr} {un now at_ : Int} {ran gone : Bool} (r : RS h0 b C X (tlJ un now ran gone at_) cs ps) (hb : b < h0.next) (hC : C < h0.next) (hn : 0 ≤ now) (hun : un ≤ 10000) (hwf : WFp cs ps) (hts : ∀ c ∈ cs, c.ts.length ≤ 4) (x : Nt) {Q R : AV → Heap → Prop}
  (hQ : ∀ s : Ks, noteS un (cs, ps, now, ran, gone) x = .inr s → ∀ h', RS h' b C X (tlJ un s.2.2.1 s.2.2.2.1 s.2.2.2.2 at_) s.1 s.2.1 → Fr h0 h' [b, C] → Q (.tup []) h')
  (hR : ∀ rule, noteS un (cs, ps, now, ran, gone) x = .inl rule → ∀ h' tl qs, RS h' b C X tl cs qs → tl[4]? = some (.int .i64 at_) → Fr h0 h' [b, C] → R (.iface 115 (.int .i64 rule)) h') : VX fs ms f_judge_look_note [.ptr b 0, nt x] h0 Q R := by
 unfold noteS at hQ hR
 simp only at hQ hR
 refine vx_begin (af := C_judge_look_note) rfl (Nat.le_of_ble_eq_true rfl) ?_
 set_option smartUnfolding false in conv => whnf
 refine vc_seq true ?_
 set_option smartUnfolding false in conv => whnf
 have gs : (h0.new (.cells (nt x).cells true 0)).get h0.next = some (.cells (nt x).cells true 0) := get_new_same
 have fr1 : Fr h0 (h0.new (.cells (nt x).cells true 0)) [] := (Fr.refl h0 []).new
 have n1 : h0.next < (h0.new (.cells (nt x).cells true 0)).next := Nat.lt_succ_self _
 have r1 := r.keep fr1 hb hC
 generalize h0.new (.cells (nt x).cells true 0) = h1 at *
 refine vc_seqV (vc_opsX (z := true) rfl ?_)
 set_option smartUnfolding false in conv => whnf
 refine ⟨nt x, ldN (n := 7) gs (Nat.le_refl _), ?_⟩
 set_option smartUnfolding false in conv => whnf
 refine shaped_c r1 (Nat.lt_of_lt_of_le hb fr1.next) (Nat.lt_of_lt_of_le hC fr1.next) x (fun h2 fr2 => ?_)
 set_option smartUnfolding false in conv => whnf
 have r2 := r1.keep fr2 (Nat.lt_of_lt_of_le hb fr1.next) (Nat.lt_of_lt_of_le hC fr1.next)
 have gs2 : h2.get h0.next = some (.cells (nt x).cells true 0) := (fr2.keep _ n1 (by simp)).trans gs
 have n2 := Nat.lt_of_lt_of_le n1 fr2.next
 have fr02 := fr1.trans fr2
 refine must_x (fun hs => ?_) (fun hs => hR 1 (by rw [if_pos hs]) h2 _ ps r2 rfl (fr02.wk (by simp)))
 set_option smartUnfolding false in conv => whnf
 rw [if_neg (by rw [hs]; simp)] at hQ hR
 obtain ⟨a1, a2, k1, k8, p1, p2, tw, tn⟩ := shaped_yes hs
 clear r1 gs fr1 fr2 hs
 refine vc_seqV (vc_opsX (z := true) rfl ?_)
 set_option smartUnfolding false in conv => whnf
 refine ⟨_, ld1 gs2 rfl, ?_⟩
 set_option smartUnfolding false in conv => whnf
 refine to_x r2 (Nat.lt_of_lt_of_le hb fr02.next) (Nat.lt_of_lt_of_le hC fr02.next) hn (by omega) (fun s hs h3 r3 fr3 => ?_) (fun rule hs h' tl qs r' ht fr' => hR rule (by rw [hs]) h' tl qs r' ht (Fr.trans (fr02.wk (by simp)) (fr'.wk (by simp))))
 set_option smartUnfolding false in conv => whnf
 obtain ⟨hsame, hnow⟩ := toS_same hs
 rw [hs] at hQ hR
 obtain ⟨ps1, now1, ran1, gone1⟩ := s
 simp only at hQ hR r3 hsame hnow
 have hwf1 := hsame.wf hwf
 have gs3 : h3.get h0.next = some (.cells (nt x).cells true 0) := (fr3.keep _ n2 (by simp; omega)).trans gs2
 have fr03 : Fr h0 h3 [b, C] := Fr.trans (fr02.wk (by simp)) (fr3.wk (by simp))
 have n3 := Nat.lt_of_lt_of_le n2 fr3.next
 have hb3 := Nat.lt_of_lt_of_le hb fr03.next
 have hC3 := Nat.lt_of_lt_of_le hC fr03.next
 clear r2 gs2 fr3 fr02 hs hsame hwf
 obtain ⟨i, hi, hxp, htk⟩ := tasks_at p1 p2
 have hip : i < ps1.length := by have := r3.le; have := r3.len; omega
 have hlen := r3.len
 have hts4 := hts cs[i] (List.getElem_mem hi)
 rw [htk] at tn
 unfold noteB at hQ hR
 rw [show x.p.toNat = i by omega, show ps1.getD i pr0 = ps1[i] by simp [List.getD_eq_getElem?_getD, List.getElem?_eq_getElem hip], show cs.getD i pt0 = cs[i] by simp [List.getD_eq_getElem?_getD, List.getElem?_eq_getElem hi]] at hQ hR
 unfold noteC at hQ hR
 have tneg : x.t ≠ -1 → wholeN x = false → 0 ≤ x.t ∧ x.t < (cs[i].ts.length : Nat) := fun h1 h2 => by obtain ⟨h3, h4⟩ := tn h2; omega
 have trel : x.k ≠ 1 → wholeN x = false → 0 ≤ x.t ∧ x.t < (cs[i].ts.length : Nat) := fun h1 h2 => by obtain ⟨h3, h4⟩ := tn h2; omega
 refine vc_seq true ?_
 set_option smartUnfolding false in conv => whnf
 refine ⟨_, ld1 gs3 rfl, ?_⟩
 set_option smartUnfolding false in conv => whnf
 rw [hxp]
 refine ⟨_, idx_arr (by omega), ?_⟩
 set_option smartUnfolding false in conv => whnf
 rw [← hxp]
 have hoo : 0 + 2 + i * 23 = i * 23 + 2 := by omega
 refine vc_seqV (vc_dopsX (z := true) rfl rfl rfl ?_)
 set_option smartUnfolding false in conv => whnf
 refine ⟨_, r3.ld hip (f := 0) (by omega) (by omega) rfl, ?_⟩
 set_option smartUnfolding false in conv => whnf
 refine ⟨_, ld1 gs3 rfl, ?_⟩
 set_option smartUnfolding false in conv => whnf
 refine must_x (fun hs => ?_) (fun hs => hR 2 (by have hs' : (ps1[i].inn != (x.k == 6)) = false := hs; rw [if_pos hs']) h3 _ ps1 r3 rfl fr03)
 set_option smartUnfolding false in conv => whnf
 have hs' : (ps1[i].inn != (x.k == 6)) = true := hs
 rw [if_neg (by rw [hs']; simp)] at hQ hR
 clear hs'
 clear hs
 refine vc_seqV (VC.mono (Q := fun y e h => (y = .normal ∧ (x.k != 1 || (!ran1 && optI (couldN ps1 cs.length) == x.p)) = true ∧ h = h3 ∧ AllAt e [(0, .ptr b 0), (3, .ptr h0.next 0), (4, .ptr b (0 + 2 + i * 23))]) ∨ ∃ v, y = .panic v ∧ R v h) ?_ ?_)
 ·have hR3 : (x.k != 1 || (!ran1 && optI (couldN ps1 cs.length) == x.p)) = false → R (.iface 115 (.int .i64 3)) h3 := fun hs => hR 3 (by rw [if_pos hs]) h3 _ ps1 r3 rfl fr03
  clear hQ hR
  have hM : ∀ (ok : Bool) (rule : Int) (K R' : AV → Heap → Prop), (ok = true → K (.tup []) h3) → (ok = false → R' (.iface 115 (.int .i64 rule)) h3) → VX fs ms f_judge_must [.bool ok, .int .i64 rule] h3 K R' := fun ok rule K R' hk hr => must_x hk hr
  refine vc_dopsXW (z := true) rfl rfl ?_
  set_option smartUnfolding false in conv => whnf
  refine ⟨_, ld1 gs3 rfl, ?_⟩
  set_option smartUnfolding false in conv => whnf
  refine br (fun hc => ?_) (fun hc => ?_) <;> (try rw [hc]) <;> (set_option smartUnfolding false in conv => whnf)
  ·refine hM true 3 _ _ (fun ht => ?_) (fun hf => by simp at hf)
   refine ⟨winOk_of (by (set_option smartUnfolding false in conv => whnf); repeat' (first | exact trivial | (exact ⟨rfl, rfl, .inr ⟨_, _, rfl⟩⟩) | (refine ⟨rfl, rfl, .inl ⟨rfl, fun o ho => ?_⟩⟩; cases ho; first | rfl) | (exact ⟨rfl, .inr ⟨_, _, rfl⟩⟩) | (refine ⟨rfl, .inl ⟨rfl, fun i o hi ho => ?_⟩⟩; cases hi; cases ho; first | rfl) | (refine And.intro (fun hon => (Bool.false_ne_true hon).elim) ?_ <;> set_option smartUnfolding false in conv => whnf) | (refine And.intro (fun _ => ?_) ?_ <;> set_option smartUnfolding false in conv => whnf) | (refine And.intro ?_ ?_ <;> set_option smartUnfolding false in conv => whnf))), ?_⟩
   set_option smartUnfolding false in conv => whnf
   exact .inl ⟨rfl, by first | rfl | (rw [hc]; rfl), rfl, rfl, rfl, rfl, trivial⟩
  ·have h1c := hc
   refine ⟨_, r3.ldt (f := 2) (by omega) rfl, ?_⟩
   set_option smartUnfolding false in conv => whnf
   cases ran1 with
   | true =>
    set_option smartUnfolding false in conv => whnf
    refine hM false 3 _ _ (fun ht => by simp at ht) (fun hf => ?_)
    refine ⟨winOk_of (by (set_option smartUnfolding false in conv => whnf); repeat' (first | exact trivial | (exact ⟨rfl, rfl, .inr ⟨_, _, rfl⟩⟩) | (refine ⟨rfl, rfl, .inl ⟨rfl, fun o ho => ?_⟩⟩; cases ho; first | rfl) | (exact ⟨rfl, .inr ⟨_, _, rfl⟩⟩) | (refine ⟨rfl, .inl ⟨rfl, fun i o hi ho => ?_⟩⟩; cases hi; cases ho; first | rfl) | (refine And.intro (fun hon => (Bool.false_ne_true hon).elim) ?_ <;> set_option smartUnfolding false in conv => whnf) | (refine And.intro (fun _ => ?_) ?_ <;> set_option smartUnfolding false in conv => whnf) | (refine And.intro ?_ ?_ <;> set_option smartUnfolding false in conv => whnf))), ?_⟩
    exact .inr ⟨_, rfl, hR3 (by rw [h1c]; rfl)⟩
   | false =>
    set_option smartUnfolding false in conv => whnf
    refine jcould_c r3 ?_
    set_option smartUnfolding false in conv => whnf
    refine ⟨_, ld1 gs3 rfl, ?_⟩
    set_option smartUnfolding false in conv => whnf
    refine hM _ 3 _ _ (fun ht => ?_) (fun hf => ?_)
    ·refine ⟨winOk_of (by (set_option smartUnfolding false in conv => whnf); repeat' (first | exact trivial | (exact ⟨rfl, rfl, .inr ⟨_, _, rfl⟩⟩) | (refine ⟨rfl, rfl, .inl ⟨rfl, fun o ho => ?_⟩⟩; cases ho; first | rfl | exact ld1 gs3 rfl) | (exact ⟨rfl, .inr ⟨_, _, rfl⟩⟩) | (refine ⟨rfl, .inl ⟨rfl, fun i o hi ho => ?_⟩⟩; cases hi; cases ho; first | rfl | exact ld1 gs3 rfl) | (refine And.intro (fun hon => (Bool.false_ne_true hon).elim) ?_ <;> set_option smartUnfolding false in conv => whnf) | (refine And.intro (fun _ => ?_) ?_ <;> set_option smartUnfolding false in conv => whnf) | (refine And.intro ?_ ?_ <;> set_option smartUnfolding false in conv => whnf))), ?_⟩
     set_option smartUnfolding false in conv => whnf
     exact .inl ⟨rfl, by first | exact ht | (rw [h1c]; exact ht), rfl, rfl, rfl, rfl, trivial⟩
    ·refine ⟨winOk_of (by (set_option smartUnfolding false in conv => whnf); repeat' (first | exact trivial | (exact ⟨rfl, rfl, .inr ⟨_, _, rfl⟩⟩) | (refine ⟨rfl, rfl, .inl ⟨rfl, fun o ho => ?_⟩⟩; cases ho; first | rfl | exact ld1 gs3 rfl) | (exact ⟨rfl, .inr ⟨_, _, rfl⟩⟩) | (refine ⟨rfl, .inl ⟨rfl, fun i o hi ho => ?_⟩⟩; cases hi; cases ho; first | rfl | exact ld1 gs3 rfl) | (refine And.intro (fun hon => (Bool.false_ne_true hon).elim) ?_ <;> set_option smartUnfolding false in conv => whnf) | (refine And.intro (fun _ => ?_) ?_ <;> set_option smartUnfolding false in conv => whnf) | (refine And.intro ?_ ?_ <;> set_option smartUnfolding false in conv => whnf))), ?_⟩
     exact .inr ⟨_, rfl, hR3 (by rw [h1c]; exact hf)⟩
 rintro y e h (⟨rfl, hok3, rfl, he⟩ | ⟨v, rfl, hr⟩)
 rotate_left
 ·exact hr
 rw [if_neg (by rw [hok3]; simp)] at hQ hR
 clear hok3
 show VC fs ms _ _ _ _ _ _
 refine vc_slots 5 _ he ?_
 clear he
 refine vc_seqV (vc_opsX (z := true) rfl ?_)
 set_option smartUnfolding false in conv => whnf
 refine ⟨nt x, ldN (n := 7) gs3 (Nat.le_refl _), ?_⟩
 set_option smartUnfolding false in conv => whnf
 refine there_c r3 hb3 hC3 hip hoo x (fun hw ht => by have := tneg ht hw; omega) (fun hk => by have := trel (by omega) (by simp [wholeN, hk]); omega) (fun h4 fr4 => ?_)
 set_option smartUnfolding false in conv => whnf
 have r4 := r3.keep fr4 hb3 hC3
 have gs4 : h4.get h0.next = some (.cells (nt x).cells true 0) := (fr4.keep _ n3 (by simp)).trans gs3
 have n4 := Nat.lt_of_lt_of_le n3 fr4.next
 have fr04 : Fr h0 h4 [b, C] := fr03.trans (fr4.wk (by simp))
 have hb4 := Nat.lt_of_lt_of_le hb fr04.next
 have hC4 := Nat.lt_of_lt_of_le hC fr04.next
 refine must_x (fun hs => ?_) (fun hs => hR 5 (by rw [if_pos hs]) h4 _ ps1 r4 rfl fr04)
 set_option smartUnfolding false in conv => whnf
 rw [if_neg (by rw [hs]; simp)] at hQ hR
 clear hs r3 gs3 fr4 fr03 hb3 hC3 n3
 refine vc_seqV (vc_seq true ?_)
 set_option smartUnfolding false in conv => whnf
 refine ⟨nt x, ldN (n := 7) gs4 (Nat.le_refl _), ?_⟩
 set_option smartUnfolding false in conv => whnf
 refine vd_pure (whole_c x) ?_
 set_option smartUnfolding false in conv => whnf
 cases hw : wholeN x with
 | true =>
  rw [if_pos hw] at hQ
  refine vpC_sound (z := true) ?_
  set_option smartUnfolding false in conv => whnf
  refine ⟨nt x, ldN (n := 7) gs4 (Nat.le_refl _), ?_⟩
  set_option smartUnfolding false in conv => whnf
  refine turn_c r4 hb4 hC4 hi hip hoo x hxp hw (fun h5 r5 fr5 => ?_)
  set_option smartUnfolding false in conv => whnf
  exact ⟨_, rfl, hQ _ rfl h5 r5 (fr04.trans fr5)⟩
 | false =>
  rw [if_neg (by rw [hw]; simp)] at hQ hR
  refine vpC_sound (z := true) ?_
  set_option smartUnfolding false in conv => whnf
  have hidx : x.t ≠ -1 → pV (.iaddrS 8) [.fz cs[i].k (tks cs[i].ts), .int .i64 x.t] = some (.fp (tk (cs[i].ts.getD x.t.toNat tk00)).cells 0) := fun h => by
   obtain ⟨t0, t1⟩ := tneg h hw
   have hj : x.t.toNat < cs[i].ts.length := by omega
   have := idx_tk (k := cs[i].k) hj
   rw [show ((x.t.toNat : Nat) : Int) = x.t by omega] at this
   rw [this]
   simp [List.getD_eq_getElem?_getD, List.getElem?_eq_getElem hj]
  generalize cs[i].ts.getD x.t.toNat tk00 = T at *
  have hR7 : ∀ rule, timelyS ps1[i] x T = rule → rule ≠ 0 → (x.t != -1) = true → ∀ h', Fr h4 h' [] → R (.iface 115 (.int .i64 rule)) h' := fun rule he hne ht h' f =>
   hR rule (by rw [if_pos (by rw [ht, Bool.true_and, he]; simpa using hne), he]) h' _ ps1 (r4.keep f hb4 hC4) rfl (fr04.trans (f.wk (by simp)))
  refine vc_seqV (VC.mono (Q := fun y e h => (y = .normal ∧ (x.t != -1 && timelyS ps1[i] x T != 0) = false ∧ Fr h4 h [] ∧ AllAt e [(0, .ptr b 0), (3, .ptr h0.next 0), (4, .ptr b (0 + 2 + i * 23))]) ∨ ∃ v, y = .panic v ∧ R v h) ?_ ?_)
  ·refine vc_seq true ?_
   set_option smartUnfolding false in conv => whnf
   refine ⟨_, ld1 gs4 rfl, ?_⟩
   set_option smartUnfolding false in conv => whnf
   clear hQ hR
   cases et : (x.t != -1) with
   | true =>
    have hne : x.t ≠ -1 := by simpa using et
    have ht := tneg hne hw
    refine vc_condV ?_
    set_option smartUnfolding false in conv => whnf
    refine vc_dopsX (z := true) rfl rfl rfl ?_
    set_option smartUnfolding false in conv => whnf
    refine ⟨nt x, ldN (n := 7) gs4 (Nat.le_refl _), ?_⟩
    set_option smartUnfolding false in conv => whnf
    refine ⟨_, ld1 r4.st rfl, ?_⟩
    set_option smartUnfolding false in conv => whnf
    refine ⟨_, ld1 gs4 rfl, ?_⟩
    set_option smartUnfolding false in conv => whnf
    rw [hxp]
    refine ⟨_, idx_slO hi, ?_⟩
    set_option smartUnfolding false in conv => whnf
    refine ⟨_, r4.ldc hi (f := 2) (by omega) (by omega) rfl, ?_⟩
    set_option smartUnfolding false in conv => whnf
    refine ⟨_, ld1 gs4 rfl, ?_⟩
    set_option smartUnfolding false in conv => whnf
    refine ⟨_, hidx hne, ?_⟩
    set_option smartUnfolding false in conv => whnf
    refine ⟨tk T, rfl, ?_⟩
    set_option smartUnfolding false in conv => whnf
    refine timely_x r4 hb4 hC4 hip hoo x T (by omega) (fun h0' h5 fr5 => ?_) (fun rule he hne h5 fr5 => .inr ⟨_, rfl, hR7 rule he hne et h5 fr5⟩)
    set_option smartUnfolding false in conv => whnf
    exact .inl ⟨rfl, by first | (rw [h0']; rfl) | (rw [et, h0']; rfl), fr5, rfl, rfl, rfl, trivial⟩
   | false =>
    refine vpC_sound (z := true) ?_
    set_option smartUnfolding false in conv => whnf
    exact .inl ⟨rfl, by first | rfl | (rw [et]; rfl), Fr.refl _ _, rfl, rfl, rfl, trivial⟩
  rintro y e h5 (⟨rfl, hti, fr5, he⟩ | ⟨v, rfl, hr⟩)
  rotate_left
  ·exact hr
  rw [if_neg (by rw [hti]; simp)] at hQ hR
  clear hti hR7
  show VC fs ms _ _ _ _ _ _
  refine vc_slots 4 _ he ?_
  clear he
  have r5 := r4.keep fr5 hb4 hC4
  have gs5 : h5.get h0.next = some (.cells (nt x).cells true 0) := (fr5.keep _ n4 (by simp)).trans gs4
  have n5 := Nat.lt_of_lt_of_le n4 fr5.next
  have fr05 : Fr h0 h5 [b, C] := fr04.trans (fr5.wk (by simp))
  have hb5 := Nat.lt_of_lt_of_le hb fr05.next
  have hC5 := Nat.lt_of_lt_of_le hC fr05.next
  clear r4 gs4 fr5 fr04 hb4 hC4 n4
  refine vc_seqV (vc_opsX (z := true) rfl ?_)
  set_option smartUnfolding false in conv => whnf
  refine ⟨nt x, ldN (n := 7) gs5 (Nat.le_refl _), ?_⟩
  set_option smartUnfolding false in conv => whnf
  refine shares_c r5 hb5 hC5 hwf1 hi x hxp (fun hk => trel (by omega) hw) (fun h6 fr6 => ?_)
  set_option smartUnfolding false in conv => whnf
  have r6 := r5.keep fr6 hb5 hC5
  have gs6 : h6.get h0.next = some (.cells (nt x).cells true 0) := (fr6.keep _ n5 (by simp)).trans gs5
  have n6 := Nat.lt_of_lt_of_le n5 fr6.next
  have fr06 : Fr h0 h6 [b, C] := fr05.trans (fr6.wk (by simp))
  have hb6 := Nat.lt_of_lt_of_le hb fr06.next
  have hC6 := Nat.lt_of_lt_of_le hC fr06.next
  refine must_x (fun hs => ?_) (fun hs => hR 8 (by have hs' : sharesS cs ps1 ps1[i] x = false := hs; rw [if_pos hs']) h6 _ ps1 r6 rfl fr06)
  set_option smartUnfolding false in conv => whnf
  have hs' : sharesS cs ps1 ps1[i] x = true := hs
  rw [if_neg (by rw [hs']; simp)] at hQ
  clear hs' hR
  have hQ2 : ∀ p1, (if (x.k == 1) = true then { ps1[i] with ran := IntKind.i64.wrap (ps1[i].ran + 1) } else ps1[i]) = p1 → ∀ p2, (if (x.t != -1) = true then doesS p1 x T else p1) = p2 → ∀ h', RS h' b C X (tlJ un now1 (ran1 || x.k == 1) gone1 at_) cs (ps1.set i p2) → Fr h6 h' [b] → Q (.tup []) h' := by
   intro p1 e1 p2 e2 h' r' f
   subst e1
   subst e2
   exact hQ _ rfl h' r' (fr06.trans (f.wk (by simp)))
  clear hQ
  refine vc_seqV (VC.mono (Q := fun y e h => y = .normal ∧ Fr h6 h [b] ∧ RS h b C X (tlJ un now1 (ran1 || x.k == 1) gone1 at_) cs (ps1.set i (if (x.k == 1) = true then { ps1[i] with ran := IntKind.i64.wrap (ps1[i].ran + 1) } else ps1[i])) ∧ AllAt e [(0, .ptr b 0), (3, .ptr h0.next 0), (4, .ptr b (0 + 2 + i * 23))]) ?_ ?_)
  ·clear hQ2
   refine vc_seq true ?_
   set_option smartUnfolding false in conv => whnf
   refine ⟨_, ld1 gs6 rfl, ?_⟩
   set_option smartUnfolding false in conv => whnf
   cases e1 : (x.k == 1) with
   | true =>
    refine vpC_sound (z := true) ?_
    set_option smartUnfolding false in conv => whnf
    obtain ⟨h7, s7, r7, fr7⟩ := r6.putT (v := .bool true) (f := 2) (o := 0 + 96) (tl' := tlJ un now1 true gone1 at_) (by omega) rfl (by simp [tlJ]) rfl rfl
    refine eff_o s7 fun h7' e7 => ?_
    subst e7
    set_option smartUnfolding false in conv => whnf
    refine ⟨_, r7.ld hip (f := 4) (by omega) (by omega) rfl, ?_⟩
    set_option smartUnfolding false in conv => whnf
    obtain ⟨h8, s8, r8, fr8⟩ := r7.put (v := .int .i64 (IntKind.i64.wrap (ps1[i].ran + 1))) (n := 1) (p' := { ps1[i] with ran := IntKind.i64.wrap (ps1[i].ran + 1) }) hip (f := 4) (o := 0 + 2 + i * 23 + 4) (by omega) rfl (by omega) rfl rfl
    refine eff_o s8 fun h8' e8 => ?_
    subst e8
    set_option smartUnfolding false in conv => whnf
    refine ⟨rfl, fr7.trans fr8, ?_, rfl, rfl, rfl, trivial⟩
    rw [Bool.or_true, if_pos rfl]
    exact r8
   | false =>
    refine vpC_sound (z := true) ?_
    set_option smartUnfolding false in conv => whnf
    refine ⟨rfl, Fr.refl _ _, ?_, rfl, rfl, rfl, trivial⟩
    rw [Bool.or_false, if_neg (by simp)]
    exact r6.toS hip
  rintro y e h7 ⟨rfl, fr7, r7, he⟩
  have hQ3 := hQ2 _ rfl
  clear hQ2
  generalize (if (x.k == 1) = true then { ps1[i] with ran := IntKind.i64.wrap (ps1[i].ran + 1) } else ps1[i]) = p1 at *
  show VC fs ms _ _ _ _ _ _
  refine vc_slots 4 _ he ?_
  clear he
  have gs7 : h7.get h0.next = some (.cells (nt x).cells true 0) := (fr7.keep _ n6 (by simp; omega)).trans gs6
  have hb7 := Nat.lt_of_lt_of_le hb6 fr7.next
  have hC7 := Nat.lt_of_lt_of_le hC6 fr7.next
  refine vc_seq true ?_
  set_option smartUnfolding false in conv => whnf
  refine ⟨_, ld1 gs7 rfl, ?_⟩
  set_option smartUnfolding false in conv => whnf
  cases et : (x.t != -1) with
  | true =>
   have hne : x.t ≠ -1 := by simpa using et
   have ht := tneg hne hw
   have hQ4 := hQ3 _ (if_pos et)
   refine vpC_sound (z := true) ?_
   set_option smartUnfolding false in conv => whnf
   refine ⟨nt x, ldN (n := 7) gs7 (Nat.le_refl _), ?_⟩
   set_option smartUnfolding false in conv => whnf
   refine ⟨_, ld1 r7.st rfl, ?_⟩
   set_option smartUnfolding false in conv => whnf
   refine ⟨_, ld1 gs7 rfl, ?_⟩
   set_option smartUnfolding false in conv => whnf
   rw [hxp]
   refine ⟨_, idx_slO hi, ?_⟩
   set_option smartUnfolding false in conv => whnf
   refine ⟨_, r7.ldc hi (f := 2) (by omega) (by omega) rfl, ?_⟩
   set_option smartUnfolding false in conv => whnf
   refine ⟨_, ld1 gs7 rfl, ?_⟩
   set_option smartUnfolding false in conv => whnf
   refine ⟨_, hidx hne, ?_⟩
   set_option smartUnfolding false in conv => whnf
   refine ⟨tk T, rfl, ?_⟩
   set_option smartUnfolding false in conv => whnf
   refine does_c r7 hb7 hC7 (i := i) (by rw [List.length_set]; exact hip) hoo x T (by omega) (fun h8 r8 fr8 => ?_)
   set_option smartUnfolding false in conv => whnf
   rw [List.getElem_set_self, List.set_set] at r8
   exact ⟨_, rfl, hQ4 h8 r8 (fr7.trans fr8)⟩
  | false =>
   have hQ4 := hQ3 _ (if_neg (by rw [et]; simp))
   refine vpC_sound (z := true) ?_
   set_option smartUnfolding false in conv => whnf
   exact ⟨_, rfl, hQ4 h7 r7 fr7⟩
end Ir
end Go.Proofs.Ytepdklcpagielaa
