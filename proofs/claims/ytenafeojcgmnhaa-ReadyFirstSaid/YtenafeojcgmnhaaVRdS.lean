/-
  Ready: two queues; in which order jobs were put counts for nothing.
-/
import Derived.Test.YtenafeojcgmnhaaVRdR
set_option maxRecDepth 100000
set_option linter.unusedSimpArgs false
set_option linter.unusedVariables false
namespace Go.Proofs.Ytenafeojcgmnhaa
open Go Ads
namespace Ir

def bos (l : List Bool) : List AV := l.map AV.bool
theorem ints_get {V : List Int} {i : Nat} (h : i < V.length) : (ints V)[i]? = some (.int .i64 (gD V i)) := by
  rw [ints, List.getElem?_map, List.getElem?_eq_getElem h, gD_eq h]
  rfl
theorem bos_get {W : List Bool} {i : Nat} (h : i < W.length) : (bos W)[i]? = some (.bool (W.getD i false)) := by
  rw [bos, List.getElem?_map, List.getD_eq_getElem?_getD, List.getElem?_eq_getElem h]
  rfl
/-- Two queues in a heap, and two boxes. -/
structure Two (h : Heap) (a : Nat) (Sa : List Nat) (b : Nat) (Sb : List Nat) (La Lb : List Id) (c d : Nat) (V : List Int) (W : List Bool) : Prop where
  qa : QAt h a Sa 4 La
  qb : QAt h b Sb 4 Lb
  dis : ∀ x ∈ Sa, x ∉ Sb
  gc : h.get c = some (.cells (ints V) true 0)
  gd : h.get d = some (.cells (bos W) true 0)
  lc : c < h.next
  ld : d < h.next
  ca : c ∉ Sa
  cb : c ∉ Sb
  da : d ∉ Sa
  db : d ∉ Sb
theorem Own.off {h h' : Heap} {S S' : List Nat} (o : Own h h' S S') {c : Nat} (hc : c < h.next) (hn : c ∉ S) : c ∉ S' := by
  intro hm
  rcases o.new c hm with h | h
  · exact hn h
  · omega
theorem Two.opb {h h' : Heap} {a b c d : Nat} {Sa Sb Sb' : List Nat} {La Lb Lb' : List Id} {V : List Int} {W : List Bool} (T : Two h a Sa b Sb La Lb c d V W) (hq : QAt h' b Sb' 4 Lb') (o : Own h h' Sb Sb') : Two h' a Sa b Sb' La Lb' c d V W :=
  ⟨T.qa.keep o.fr T.dis, hq, fun x hx => o.off (T.qa.own x hx) (T.dis x hx), by rw [o.fr.keep c T.lc T.cb]; exact T.gc, by rw [o.fr.keep d T.ld T.db]; exact T.gd, Nat.lt_of_lt_of_le T.lc o.fr.next, Nat.lt_of_lt_of_le T.ld o.fr.next, T.ca, o.off T.lc T.cb, T.da, o.off T.ld T.db⟩
theorem Two.opa {h h' : Heap} {a b c d : Nat} {Sa Sb Sa' : List Nat} {La Lb La' : List Id} {V : List Int} {W : List Bool} (T : Two h a Sa b Sb La Lb c d V W) (hq : QAt h' a Sa' 4 La') (o : Own h h' Sa Sa') : Two h' a Sa' b Sb La' Lb c d V W :=
  ⟨hq, T.qb.keep o.fr (fun x hx hxa => T.dis x hxa hx), fun x hx hxb => (o.off (T.qb.own x hxb) (fun hxa => T.dis x hxa hxb)) hx, by rw [o.fr.keep c T.lc T.ca]; exact T.gc, by rw [o.fr.keep d T.ld T.da]; exact T.gd, Nat.lt_of_lt_of_le T.lc o.fr.next, Nat.lt_of_lt_of_le T.ld o.fr.next, o.off T.lc T.ca, T.cb, o.off T.ld T.da, T.db⟩

def ddV (V : List Int) (k : Nat) : Int := bring (gD V k) 100
theorem ddV_in (V : List Int) (k : Nat) : 0 ≤ ddV V k ∧ ddV V k < 100 := ⟨Int.emod_nonneg _ (by omega), Int.emod_lt_of_pos _ (by omega)⟩

theorem mix_l0 {a b c d : Nat} {V : List Int} {W : List Bool} {turn : Int} {r : Nat} (hr : bring turn 4 = r) (hr4 : r < 4) (hV : V.length = 4) {B : Nat} {Q : AX → Env → Heap → Prop} :
    ∀ (n i : Nat) (h : Heap) (Sa Sb : List Nat) (La Lb : List Id) (env : Env), 4 - i = n → i ≤ 4 → Two h a Sa b Sb La Lb c d V W → (∀ y, y ∈ Lb ↔ ∃ j, j < i ∧ y = ((j + r) % 4, ddV V ((j + r) % 4))) →
    AllAt env [(2, .int .i64 turn), (3, .ptr c 0), (4, .ptr d 0), (7, .ptr a 0), (9, .ptr b 0), (11, .int .i64 ((i : Nat) : Int))] →
    (∀ e' h' Sb' Lb', Tr.get e' 3 = some (.ptr c 0) → Tr.get e' 4 = some (.ptr d 0) → Tr.get e' 7 = some (.ptr a 0) → Tr.get e' 9 = some (.ptr b 0) → Two h' a Sa b Sb' La Lb' c d V W → (∀ y, y ∈ Lb' ↔ y.1 < 4 ∧ y.2 = ddV V y.1) → Q (.exit 0) e' h') →
    VC fs ms B false (.loop L_escapementlaw15_ReadyMixed_0) env h Q := by
  intro n
  induction n using Nat.strongRecOn with
  | ind n ih =>
  intro i h Sa Sb La Lb env hn hi T hL henv hQ
  refine vc_slots 4 [(2, .int .i64 turn), (3, .ptr c 0), (4, .ptr d 0), (7, .ptr a 0), (9, .ptr b 0), (11, .int .i64 ((i : Nat) : Int))] henv ?_
  refine vc_loop (z := true) ?_
  set_option smartUnfolding false in conv => whnf
  refine br (fun hc => ?_) (fun hc => ?_) <;> (try rw [hc]) <;> (set_option smartUnfolding false in conv => whnf)
  · have hlt : i < 4 := by have := of_decide_eq_true hc; omega
    refine vd_pure (bring_c turn 4 (by omega) (by omega)) ?_
    set_option smartUnfolding false in conv => whnf
    rw [hr]
    refine ⟨_, rem_val _ _ (by omega), ?_⟩
    set_option smartUnfolding false in conv => whnf
    have hk : (IntKind.i64.wrap (((i : Nat) : Int) + ((r : Nat) : Int))).tmod 4 = (((i + r) % 4 : Nat) : Int) := by
      rw [show ((i : Nat) : Int) + ((r : Nat) : Int) = ((i + r : Nat) : Int) by omega, wrap_nat (by omega), Int.tmod_eq_emod_of_nonneg (by omega)]
      rfl
    rw [hk]
    have hk4 : (i + r) % 4 < 4 := Nat.mod_lt _ (by omega)
    generalize hkk : (i + r) % 4 = k at *
    refine ⟨_, idx_arr (o := 0) hk4, ?_⟩
    set_option smartUnfolding false in conv => whnf
    refine ⟨_, ld1 T.gc (by rw [Nat.zero_add, Nat.mul_one]; exact ints_get (by omega)), ?_⟩
    set_option smartUnfolding false in conv => whnf
    refine vd_pure (bring_c (gD V k) 100 (by omega) (by omega)) ?_
    set_option smartUnfolding false in conv => whnf
    have hd := ddV_in V k
    refine qput_o T.qb _ _ (fun hb => by omega) (fun _ hb => ?_) (fun _ _ y hy e => ?_) fun _ j hj _ hno h1 Sb1 Lb1 q1 q2 q3 => ?_
    · have : ddV V k < 0 ∨ 1099511627840 < ddV V k := hb
      omega
    · obtain ⟨j, hj, e2⟩ := (hL y).1 hy
      rw [e2] at e
      simp only at e
      omega
    · set_option smartUnfolding false in conv => whnf
      have hjk : k = j := by omega
      subst hjk
      refine ih (4 - (i + 1)) (by omega) (i + 1) h1 Sa Sb1 La Lb1 _ rfl (by omega) (T.opb q1 q3) (fun y => ?_) ⟨rfl, rfl, rfl, rfl, rfl, inc_slot (by omega), trivial⟩ hQ
      rw [q2, hL]
      constructor
      · rintro (⟨j, hj, e⟩ | e)
        · exact ⟨j, by omega, e⟩
        · exact ⟨i, by omega, by rw [hkk]; exact e⟩
      · rintro ⟨j, hj, e⟩
        by_cases hji : j = i
        · subst hji; rw [hkk] at e; exact .inr e
        · exact .inl ⟨j, by omega, e⟩
  · have hge : i = 4 := by have := of_decide_eq_false hc; omega
    subst hge
    refine hQ _ h Sb Lb rfl rfl rfl rfl T fun y => ?_
    rw [hL]
    constructor
    · rintro ⟨j, hj, rfl⟩
      exact ⟨Nat.mod_lt _ (by omega), rfl⟩
    · rintro ⟨h1, h2⟩
      have e : ((y.1 + 4 - r) % 4 + r) % 4 = y.1 := by omega
      exact ⟨(y.1 + 4 - r) % 4, Nat.mod_lt _ (by omega), by rw [e, ← h2]⟩

theorem mix_l1 {a b c d : Nat} {V : List Int} {W : List Bool} (hV : V.length = 4) (hW : W.length = 4) {B : Nat} {Q : AX → Env → Heap → Prop} :
    ∀ (n i : Nat) (h : Heap) (Sa Sb : List Nat) (La Lb : List Id) (env : Env), 4 - i = n → i ≤ 4 → Two h a Sa b Sb La Lb c d V W → (∀ y, y ∈ La ↔ y.1 < i ∧ W.getD y.1 false = true ∧ y.2 = ddV V y.1) → (∀ y, y ∈ Lb ↔ y.1 < 4 ∧ y.2 = ddV V y.1 ∧ (y.1 < i → W.getD y.1 false = true)) →
    AllAt env [(3, .ptr c 0), (4, .ptr d 0), (7, .ptr a 0), (9, .ptr b 0), (13, .int .i64 ((i : Nat) : Int))] →
    (∀ e' h' Sa' Sb' La' Lb', Tr.get e' 7 = some (.ptr a 0) → Tr.get e' 9 = some (.ptr b 0) → Two h' a Sa' b Sb' La' Lb' c d V W → (∀ y, y ∈ La' ↔ y ∈ Lb') → Q (.exit 2) e' h') →
    VC fs ms B false (.loop L_escapementlaw15_ReadyMixed_1) env h Q := by
  intro n
  induction n using Nat.strongRecOn with
  | ind n ih =>
  intro i h Sa Sb La Lb env hn hi T hA hB henv hQ
  refine vc_slots 4 [(3, .ptr c 0), (4, .ptr d 0), (7, .ptr a 0), (9, .ptr b 0), (13, .int .i64 ((i : Nat) : Int))] henv ?_
  refine vc_loop (z := true) ?_
  set_option smartUnfolding false in conv => whnf
  refine br (fun hc => ?_) (fun hc => ?_) <;> (try rw [hc]) <;> (set_option smartUnfolding false in conv => whnf)
  · have hlt : i < 4 := by have := of_decide_eq_true hc; omega
    have hd := ddV_in V i
    refine ⟨_, idx_arr (o := 0) hlt, ?_⟩
    set_option smartUnfolding false in conv => whnf
    refine ⟨_, ld1 T.gd (by rw [Nat.zero_add, Nat.mul_one]; exact bos_get (by omega)), ?_⟩
    set_option smartUnfolding false in conv => whnf
    cases hw : W.getD i false with
    | true =>
      set_option smartUnfolding false in conv => whnf
      refine ⟨_, idx_arr (o := 0) hlt, ?_⟩
      set_option smartUnfolding false in conv => whnf
      refine ⟨_, ld1 T.gc (by rw [Nat.zero_add, Nat.mul_one]; exact ints_get (by omega)), ?_⟩
      set_option smartUnfolding false in conv => whnf
      refine vd_pure (bring_c (gD V i) 100 (by omega) (by omega)) ?_
      set_option smartUnfolding false in conv => whnf
      refine qput_o T.qa _ _ (fun hb => by omega) (fun _ hb => ?_) (fun _ _ y hy e => ?_) fun _ j hj _ hno h1 Sa1 La1 q1 q2 q3 => ?_
      · have : ddV V i < 0 ∨ 1099511627840 < ddV V i := hb
        omega
      · have := (hA y).1 hy
        omega
      · set_option smartUnfolding false in conv => whnf
        have hij : i = j := by omega
        subst hij
        have T1 := T.opa q1 q3
        refine ⟨_, idx_arr (o := 0) hlt, ?_⟩
        set_option smartUnfolding false in conv => whnf
        refine ⟨_, ld1 T1.gd (by rw [Nat.zero_add, Nat.mul_one]; exact bos_get (by omega)), ?_⟩
        rw [hw]
        set_option smartUnfolding false in conv => whnf
        refine ih (4 - (i + 1)) (by omega) (i + 1) h1 Sa1 Sb La1 Lb _ rfl (by omega) T1 (fun y => ?_) (fun y => ?_) ⟨rfl, rfl, rfl, rfl, inc_slot (by omega), trivial⟩ hQ
        · rw [q2, hA]
          constructor
          · rintro (⟨h1, h2, h3⟩ | rfl)
            · exact ⟨by omega, h2, h3⟩
            · exact ⟨Nat.lt_succ_self _, hw, rfl⟩
          · rintro ⟨h1, h2, h3⟩
            by_cases e : y.1 = i
            · right
              rw [e] at h3
              exact Prod.ext e h3
            · exact .inl ⟨by omega, h2, h3⟩
        · rw [hB]
          constructor
          · rintro ⟨h1, h2, h3⟩
            refine ⟨h1, h2, fun h => ?_⟩
            by_cases e : y.1 = i
            · rw [e]; exact hw
            · exact h3 (by omega)
          · rintro ⟨h1, h2, h3⟩
            exact ⟨h1, h2, fun h => h3 (by omega)⟩
    | false =>
      set_option smartUnfolding false in conv => whnf
      refine ⟨_, idx_arr (o := 0) hlt, ?_⟩
      set_option smartUnfolding false in conv => whnf
      refine ⟨_, ld1 T.gd (by rw [Nat.zero_add, Nat.mul_one]; exact bos_get (by omega)), ?_⟩
      rw [hw]
      set_option smartUnfolding false in conv => whnf
      refine qremove_o T.qb _ (fun hno => ?_) fun y e hy h1 Sb1 Lb1 q1 q2 q3 => ?_
      · exact absurd rfl (hno (i, ddV V i) ((hB _).2 ⟨hlt, rfl, fun h => absurd h (Nat.lt_irrefl _)⟩))
      · set_option smartUnfolding false in conv => whnf
        have hiy : y.1 = i := by omega
        refine ih (4 - (i + 1)) (by omega) (i + 1) h1 Sa Sb1 La Lb1 _ rfl (by omega) (T.opb q1 q3) (fun y => ?_) (fun z => ?_) ⟨rfl, rfl, rfl, rfl, inc_slot (by omega), trivial⟩ hQ
        · rw [hA]
          constructor
          · rintro ⟨h1, h2, h3⟩; exact ⟨by omega, h2, h3⟩
          · rintro ⟨h1, h2, h3⟩
            refine ⟨?_, h2, h3⟩
            by_cases e : y.1 = i
            · rw [e, hw] at h2; cases h2
            · omega
        · rw [q2, hB, hiy]
          constructor
          · rintro ⟨⟨h1, h2, h3⟩, h4⟩
            exact ⟨h1, h2, fun h => h3 (by omega)⟩
          · rintro ⟨h1, h2, h3⟩
            refine ⟨⟨h1, h2, fun h => h3 (by omega)⟩, fun e => ?_⟩
            have := h3 (by omega)
            rw [e, hw] at this
            cases this
  · have hge : i = 4 := by have := of_decide_eq_false hc; omega
    subst hge
    refine hQ _ h Sa Sb La Lb rfl rfl T fun y => ?_
    rw [hA, hB]
    constructor
    · rintro ⟨h1, h2, h3⟩; exact ⟨h1, h3, fun _ => h2⟩
    · rintro ⟨h1, h2, h3⟩; exact ⟨h1, h3 h1, h2⟩

theorem cl_bos (W : List Bool) : clL (bos W) = true := clL_map (enc := AV.bool) (fun _ => rfl) W
theorem readyMixed_c (V : List Int) (W : List Bool) (turn : Int) (hV : V.length = 4) (hW : W.length = 4) : PC fs ms f_escapementlaw15_ReadyMixed [.agg (ints V), .agg (bos W), .int .i64 turn] (.bool true) := by
  refine pc_of (by simp [clL, AV.cl, cl_ints, cl_bos]) rfl ?_
  generalize hK : (fun (u : AV) (_ : Heap) => u = .bool true) = K
  have hKt : ∀ h, K (.bool true) h := fun h => by subst hK; rfl
  clear hK
  generalize (⟨0, .nil⟩ : Heap) = h0
  refine vd_begin (af := C_escapementlaw15_ReadyMixed) rfl (Nat.le_of_ble_eq_true rfl) ?_
  set_option smartUnfolding false in conv => whnf
  refine vc_seq true ?_
  set_option smartUnfolding false in conv => whnf
  refine vc_seq true ?_
  set_option smartUnfolding false in conv => whnf
  refine new_o 4 (fun hb => by omega) fun _ _ h1 a Sa hqa haS fr1 => ?_
  set_option smartUnfolding false in conv => whnf
  have gc1 : h1.get h0.next = some (.cells (ints V) true 0) := (fr1.keep h0.next (Nat.lt_succ_of_lt (Nat.lt_succ_self _)) (by simp)).trans ((get_new_ne (h := h0.new (.cells (ints V) true 0)) (Nat.lt_succ_self _)).trans get_new_same)
  have gd1 : h1.get (h0.next + 1) = some (.cells (bos W) true 0) := (fr1.keep (h0.next + 1) (Nat.lt_succ_self _) (by simp)).trans (get_new_same (h := h0.new (.cells (ints V) true 0)))
  have n1 : h0.next + 2 ≤ h1.next := fr1.next
  have haS' : ∀ x ∈ Sa, h0.next + 2 ≤ x := haS
  clear haS fr1
  refine vc_seq true ?_
  set_option smartUnfolding false in conv => whnf
  refine new_o 4 (fun hb => by omega) fun _ _ h2 b Sb hqb hbS fr2 => ?_
  set_option smartUnfolding false in conv => whnf
  have T : Two h2 a Sa b Sb [] [] h0.next (h0.next + 1) V W := by
    have f2 := fr2.next
    refine ⟨hqa.keep fr2 (by simp), hqb, fun x hx hxb => by have := hqa.own x hx; have := hbS x hxb; omega, by rw [fr2.keep _ (by omega) (by simp)]; exact gc1, by rw [fr2.keep _ (by omega) (by simp)]; exact gd1, by omega, by omega, fun h => by have := haS' _ h; omega, fun h => by have := hbS _ h; omega, fun h => by have := haS' _ h; omega, fun h => by have := hbS _ h; omega⟩
  refine vc_seq true ?_
  set_option smartUnfolding false in conv => whnf
  refine vc_seqV (vc_seq true ?_)
  set_option smartUnfolding false in conv => whnf
  refine vc_block ?_
  have hb0 : 0 ≤ bring turn 4 := Int.emod_nonneg _ (by omega)
  have hb4 : bring turn 4 < 4 := Int.emod_lt_of_pos _ (by omega)
  refine mix_l0 (r := (bring turn 4).toNat) (V := V) (W := W) (turn := turn) (by omega) (by omega) hV _ 0 h2 Sa Sb [] [] _ rfl (by omega) T (fun y => ⟨fun h => by simp at h, fun ⟨j, hj, _⟩ => by omega⟩) ⟨rfl, rfl, rfl, rfl, rfl, rfl, trivial⟩ ?_
  intro e3 h3 Sb3 Lb3 g3 g4 g7 g9 T3 hL3
  show VC fs ms _ _ _ _ _ _
  refine vc_slots 4 [(3, .ptr h0.next 0), (4, .ptr (h0.next + 1) 0), (7, .ptr a 0), (9, .ptr b 0)] ⟨g3, g4, g7, g9, trivial⟩ ?_
  refine vc_seqV (vc_seq true ?_)
  set_option smartUnfolding false in conv => whnf
  refine vc_block ?_
  refine mix_l1 hV hW _ 0 h3 Sa Sb3 [] Lb3 _ rfl (by omega) T3 (fun y => ⟨fun h => by simp at h, fun h => by omega⟩) (fun y => (hL3 y).trans ⟨fun h => ⟨h.1, h.2, fun h => by omega⟩, fun h => ⟨h.1, h.2.1⟩⟩) ⟨rfl, rfl, rfl, rfl, rfl, trivial⟩ ?_
  intro e4 h4 Sa4 Sb4 La4 Lb4 g7 g9 T4 hL4
  show VC fs ms _ _ _ _ _ _
  refine vc_slots 4 [(7, .ptr a 0), (9, .ptr b 0)] ⟨g7, g9, trivial⟩ (vpC_sound (z := true) ?_)
  set_option smartUnfolding false in conv => whnf
  refine qjobs_o T4.qa fun h5 v5 M5 i5 o5 l5 fr5 => ?_
  set_option smartUnfolding false in conv => whnf
  refine qjobs_o (T4.qb.keep fr5 (by simp)) fun h6 v6 M6 i6 o6 l6 fr6 => ?_
  set_option smartUnfolding false in conv => whnf
  have hM : M5 = M6 := sorted_uniq ah_irr ah_asy M5 M6 o5.pw o6.pw fun y => by rw [o5.mem, o6.mem, hL4]
  subst hM
  obtain ⟨z1, f1⟩ := (i5.keep fr6).frz
  obtain ⟨z2, f2⟩ := i6.frz
  refine vd_view (eqInts_same z1 z2 (idl M5) (by rw [idl_len]; omega)) rfl (.cons f1 (.cons f2 .nil)) ?_
  set_option smartUnfolding false in conv => whnf
  refine vd_pure works15_c ?_
  set_option smartUnfolding false in conv => whnf
  exact hKt _
end Ir
end Go.Proofs.Ytenafeojcgmnhaa
