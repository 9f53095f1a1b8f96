/-
  Operations that write memory: store, append, copy.
-/
import Derived.Test.YtflmbknimebmnaaAdsMemB
set_option linter.unusedSimpArgs false
set_option linter.unusedVariables false
namespace Go.Proofs.Ytflmbknimebmnaa
namespace Ads
section
variable {P : Program} {H0 : Nat} {ρ : Rho} {D : Dom} {h h' : Heap} {w : World} {n : Nat} {env : Env} {a : Act}

theorem loadN_take {b o k m : Nat} {vs : List AV} (hl : h.loadN b o k = some vs) (hm : m ≤ k) : h.loadN b o m = some (vs.take m) := by
  unfold Heap.loadN at hl ⊢
  cases hr : h.row b with
  | none => simp [hr] at hl
  | some xs =>
    simp only [hr] at hl ⊢
    cases hb : Nat.ble (o + k) xs.length with
    | false => simp [hb] at hl
    | true =>
      simp only [hb, cond_true, Option.some.injEq] at hl
      have hle := Nat.le_of_ble_eq_true hb
      have : Nat.ble (o + m) xs.length = true := Nat.ble_eq_true_of_le (by omega)
      simp only [this, cond_true, Option.some.injEq]
      rw [← hl, List.take_take, Nat.min_eq_left hm]

/-- The source of append and copy, in the model: its length; its first cells. -/
theorem src_real (i : Inv P H0 ρ D h w) {size k : Nat} {x : AV} {cs : List AV} (hd : x.inD D) (hs : srcCells size h x = some (k, cs)) :
    (Builtin.lenOf (real ρ x)).run P w = .ok k w ∧ allD D cs ∧
    ((∀ s, x ≠ .str s) → ∀ m, m ≤ k → (Builtin.firstCells size m (real ρ x)).run P w = .ok (reals ρ (cs.take (m * size))).toArray w) ∧
    (Builtin.firstCells size k (real ρ x)).run P w = .ok (reals ρ cs).toArray w := by
  cases x with
  | nils =>
    simp only [srcCells, Option.some.injEq, Prod.mk.injEq] at hs
    obtain ⟨rfl, rfl⟩ := hs
    exact ⟨by simp [Builtin.lenOf, real], by simp [allD], fun _ m _ => by simp [Builtin.firstCells, real, reals], by simp [Builtin.firstCells, real, reals]⟩
  | sl b o len cap opn =>
    simp only [srcCells, Option.map_eq_some_iff, Prod.mk.injEq] at hs
    obtain ⟨cs', hl, rfl, rfl⟩ := hs
    simp only [AV.inD] at hd
    have hfull := run_loadCells_real (P := P) i hd hl
    refine ⟨by simp [Builtin.lenOf, real], hfull.2, fun _ m hm => ?_, ?_⟩
    · have := run_loadCells_real (P := P) i hd (loadN_take hl (Nat.mul_le_mul_right size hm))
      simp only [Builtin.firstCells, real]
      exact this.1
    · simp only [Builtin.firstCells, real]
      exact hfull.1
  | str s =>
    simp only [srcCells] at hs
    cases h1 : Nat.beq size 1 with
    | false => simp [h1] at hs
    | true =>
    simp only [h1, cond_true, Option.some.injEq, Prod.mk.injEq] at hs
    obtain ⟨rfl, rfl⟩ := hs
    have hsz : (⟨s.toArray⟩ : ByteArray).size = s.length := by simp only [ByteArray.size, List.size_toArray]
    refine ⟨by simp only [Builtin.lenOf, real, Sem.run_pure, hsz], ?_, fun hne => absurd rfl (hne s), ?_⟩
    · rw [allD_iff]
      intro v hv
      obtain ⟨b, _, rfl⟩ := List.mem_map.1 hv
      simp [AV.inD]
    · simp only [Builtin.firstCells, real, Sem.run_pure]
      congr 1
      have : (⟨s.toArray⟩ : ByteArray).extract 0 s.length = ⟨s.toArray⟩ := by
        apply ByteArray.ext
        rw [ByteArray.data_extract]
        apply Array.ext'
        simp
      rw [this]
      apply Array.ext'
      simp [reals_eq, real, Function.comp_def]
  | _ => simp [srcCells] at hs

theorem zeroCells_size (z : Array Value) (k : Nat) : (Builtin.zeroCells z k).size = k * z.size := by simp [Builtin.zeroCells]

/-- A new row, with spare room, behind an append. -/
theorem grown_row (i : Inv P H0 ρ D h w) {cs : List AV} (t : TypeId) (es extra : Nat) (rest : Array Value) (hd : allD D cs) (hr : rest.size = extra * es) :
    let L : Loc := ⟨w.heap.size, 0, extra⟩
    Inv P H0 (upd ρ h.next L) (grow D h.next (h.next + 1)) (h.new (.cells cs true es)) (w.drew.alloc (.cells ((reals ρ cs).toArray ++ rest) t)) ∧
    Ext ρ D h w (upd ρ h.next L) (h.new (.cells cs true es)) (w.drew.alloc (.cells ((reals ρ cs).toArray ++ rest) t)) := by
  intro L
  refine step_new i _ extra (.cells ((reals ρ cs).toArray ++ rest) t) rfl rfl rfl rfl ?_
  have hag : ∀ b, D b → upd ρ h.next L b = ρ b := fun b hb => upd_ne _ _ (by have := i.lt b hb; omega)
  refine ⟨_, t, (0, 0), alloc_new w.drew _, ?_, fun _ => ⟨i.low, ?_, fun j h1 h2 => by simp at h2⟩⟩
  · intro j v hj
    have hjl : j < cs.length := (List.getElem?_eq_some_iff.1 hj).1
    have hv := (allD_iff D cs).1 hd v (List.mem_of_getElem? hj)
    refine ⟨?_, inD_mono (fun _ => .inl) v hv⟩
    rw [real_agree hag v hv]
    simp only [Nat.zero_add]
    rw [Array.getElem?_append_left (by simp [reals_length]; exact hjl), List.getElem?_toArray, reals_get, hj]
    rfl
  · simp [reals_length, hr]

theorem reals_toArray_append (ρ : Rho) (l m : List AV) : (reals ρ l).toArray ++ (reals ρ m).toArray = (reals ρ (l ++ m)).toArray := by
  rw [reals_append]; simp

/-- append, in the model, where it must grow. -/
theorem run_grow {t u e ty : TypeId} {z : AV} {size bytes k m cap : Nat} {base : Option Addr} {xv : Value} {old new : Array Value} {d : TypeDesc} (hu : P.underlying t = some (.slice e)) (hd : P.underlying u = some d) (hx : isSrcD d = true)
    (hs : sizeT P e = some size) (hb : bytesT P e = some bytes) (hz : zeroT P e = some z)
    (hlen : (Builtin.lenOf xv).run P w = .ok m w) (hold : (Builtin.firstCells size k (.slice base k cap)).run P w.drew = .ok old w.drew)
    (hnew : (Builtin.firstCells size m xv).run P w.drew = .ok new w.drew) (hgt : ¬ k + m ≤ cap) (hb1 : (k + m) * bytes ≤ 140737488355328) (hb2 : k + m ≤ 9223372036854775807) :
    ∃ newCap, k + m ≤ newCap ∧ (Builtin.append_ #[t, u] ty #[.slice base k cap, xv]).run P w =
      .ok (.slice (some ⟨w.heap.size, 0, none⟩) (k + m) newCap) (w.drew.alloc (.cells (old ++ new ++ Builtin.zeroCells (real ρ z).cells (newCap - (k + m))) e)) := by
  obtain ⟨i, hi, hib⟩ : ∃ i, P.info? e = some i ∧ i.bytes = bytes := by
    simp only [bytesT, Option.map_eq_some_iff] at hb
    obtain ⟨i, hi, hb⟩ := hb
    exact ⟨i, hi, hb⟩
  have hzd : (zeroValue e).run P w.drew = .ok (real ρ z) w.drew := (run_zeroValue hz ρ (fun _ => True)).1
  have hsz : (sizeOf e).run P w = .ok size w := run_sizeOf hs
  have hnsc := nextslicecap_le (need := k + m) (old := cap) (by omega)
  refine ⟨(Question.appendCap (k + m) cap e).cut (w.tape w.drawn (.appendCap (k + m) cap e)), Nat.le_add_right _ _, ?_⟩
  have h63 : ¬ (9223372036854775807 < ((k : Int) + (m : Int))) := by omega
  have h48 : ¬ (281474976710656 < Builtin.nextslicecap (k + m) cap * bytes) := by
    have : Builtin.nextslicecap (k + m) cap * bytes ≤ 2 * (k + m) * bytes := Nat.mul_le_mul_right _ hnsc
    have h3 : 2 * (k + m) * bytes = 2 * ((k + m) * bytes) := Nat.mul_assoc _ _ _
    omega
  cases d <;> simp [isSrcD] at hx
  · simp [Builtin.append_, run_underlying hu, run_underlying hd, hsz, run_typeInfo hi, hib, hlen, hgt, h63, h48, Question.forced, hold, hnew, hzd, run_newRow, Result.andThen]
  · simp [Builtin.append_, run_underlying hu, run_underlying hd, hsz, run_typeInfo hi, hib, hlen, hgt, h63, h48, Question.forced, hold, hnew, hzd, run_newRow, Result.andThen]

/-- append, in the model, where there is room. -/
theorem run_fits {t u e ty : TypeId} {size k m cap : Nat} {base : Option Addr} {xv : Value} {new : Array Value} {d : TypeDesc} {w' : World} (hu : P.underlying t = some (.slice e)) (hd : P.underlying u = some d) (hx : isSrcD d = true)
    (hs : sizeT P e = some size) (hlen : (Builtin.lenOf xv).run P w = .ok m w) (hnew : (Builtin.firstCells size m xv).run P w = .ok new w) (hle : k + m ≤ cap)
    (hst : ∀ a, base = some a → (storeCells (a.add (k * size)) new.toList).run P w = .ok () w') (hn : base = none → w' = w) :
    (Builtin.append_ #[t, u] ty #[.slice base k cap, xv]).run P w = .ok (.slice base (k + m) cap) w' := by
  have hsz : (sizeOf e).run P w = .ok size w := run_sizeOf hs
  cases base with
  | none =>
    have := hn rfl
    subst this
    cases d <;> simp [isSrcD] at hx
    · simp [Builtin.append_, run_underlying hu, run_underlying hd, hsz, hlen, hle, hnew, Result.andThen]
    · simp [Builtin.append_, run_underlying hu, run_underlying hd, hsz, hlen, hle, hnew, Result.andThen]
  | some a =>
    have h1 := hst a rfl
    cases d <;> simp [isSrcD] at hx
    · simp [Builtin.append_, run_underlying hu, run_underlying hd, hsz, hlen, hle, hnew, h1, Result.andThen]
    · simp [Builtin.append_, run_underlying hu, run_underlying hd, hsz, hlen, hle, hnew, h1, Result.andThen]
end
end Ads
end Go.Proofs.Ytflmbknimebmnaa
