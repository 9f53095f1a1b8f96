/-
  Operations that read memory or write it.
-/
import Derived.Test.YtflmbknimebmnaaAdsMem
set_option linter.unusedSimpArgs false
set_option linter.unusedVariables false
namespace Go.Proofs.Ytflmbknimebmnaa
namespace Ads
section
variable {P : Program} {H0 : Nat} {ρ : Rho} {D : Dom} {h h' : Heap} {w : World} {n : Nat} {env : Env} {a : Act}

theorem rI_sound {o : Oper} {op : ROp} {rs : List Rand} {v : AV} (he : EInv ρ D n env a) (i : Inv P H0 ρ D h w) (hc : compOp P o.op = some (.r op, rs)) (hv : rI op (rs.map env.ev) h = some v) :
    Val P ρ D w (execOp a.eval o) v := by
  cases ho : o.op <;> rw [ho] at hc
  case load t x =>
    simp only [compOp] at hc
    split at hc
    · rename_i k hg hk
      obtain ⟨hq, hr⟩ := one_of hc
      simp only [IOp.r.injEq] at hq
      subst hq
      obtain ⟨r, rfl, h1⟩ := rands_one hr
      have e1 := rand_real he h1
      simp only [List.map_cons, List.map_nil] at hv
      cases hx : env.ev r with
      | ptr b o' =>
        rw [hx] at hv e1
        simp only [AV.inD] at e1
        simp only [rI, Option.map_eq_some_iff] at hv
        obtain ⟨cs, hl, rfl⟩ := hv
        have hrun := run_loadCells_real (P := P) i e1.2 hl
        unfold execOp; rw [ho]
        refine val_of ?_ (by simp only [AV.inD]; exact hrun.2)
        simp only [Instr.loadAt, e1.1, real, Instr.sureAddr, Sem.run_bind, Sem.run_pure, Result.andThen, loadVar, run_isAgg hg, if_true, run_sizeOf hk, hrun.1]
      | _ => rw [hx] at hv; simp [rI] at hv
    · rename_i k hg hk
      obtain ⟨hq, hr⟩ := one_of hc
      simp only [IOp.r.injEq] at hq
      subst hq
      obtain ⟨r, rfl, h1⟩ := rands_one hr
      have e1 := rand_real he h1
      simp only [List.map_cons, List.map_nil] at hv
      cases hx : env.ev r with
      | ptr b o' =>
        rw [hx] at hv e1
        simp only [AV.inD] at e1
        simp only [rI] at hv
        have hcl := cell_of i e1.2 hv
        unfold execOp; rw [ho]
        refine val_of ?_ hcl.2
        simp only [Instr.loadAt, e1.1, real, Instr.sureAddr, Sem.run_bind, Sem.run_pure, Result.andThen, loadVar, run_isAgg hg, Bool.false_eq_true, if_false]
        rw [run_load, hcl.1]
      | _ => rw [hx] at hv; simp [rI] at hv
    · simp at hc
  case unOp u t x =>
    exfalso
    cases u <;> simp only [compOp] at hc <;> first
      | (obtain ⟨_, _, h2⟩ := one_some hc; simp at h2; done)
      | (simp at hc; done)
  case makeMap t r =>
    exfalso
    cases r with
    | none => simp only [compOp] at hc; obtain ⟨hq, _⟩ := one_of hc; simp at hq
    | some r => simp [compOp] at hc
  all_goals (exfalso; simp only [compOp] at hc)
  all_goals repeat' (first
    | (simp only [Option.bind_eq_some_iff] at hc; obtain ⟨_, _, hc⟩ := hc)
    | (simp only [Option.map_eq_some_iff] at hc; obtain ⟨_, _, hc⟩ := hc; simp at hc; done)
    | (obtain ⟨_, _, h2⟩ := one_some hc; simp at h2; done)
    | (simp at hc; done)
    | (split at hc))

theorem load1_mono (hm : ∀ b x, h.get b = some x → h'.get b = some x) {b o : Nat} {v : AV} (hl : h.load1 b o = some v) : h'.load1 b o = some v := by
  unfold Heap.load1 Heap.row at hl ⊢
  cases hg : h.get b with
  | none => simp [hg] at hl
  | some x => rw [hm b x hg]; simpa [hg] using hl

theorem loadN_mono (hm : ∀ b x, h.get b = some x → h'.get b = some x) {b o k : Nat} {v : List AV} (hl : h.loadN b o k = some v) : h'.loadN b o k = some v := by
  unfold Heap.loadN Heap.row at hl ⊢
  cases hg : h.get b with
  | none => simp [hg] at hl
  | some x => rw [hm b x hg]; simpa [hg] using hl

/-- The heaps agree at one block. -/
theorem load1_at {b : Nat} (hb : h'.get b = h.get b) (o : Nat) : h'.load1 b o = h.load1 b o := by
  unfold Heap.load1 Heap.row; rw [hb]

theorem rI_mono (hm : ∀ b x, h.get b = some x → h'.get b = some x) {op : ROp} {vals : List AV} {v : AV} (hv : rI op vals h = some v) : rI op vals h' = some v := by
  unfold rI at hv ⊢
  split at hv
  · exact load1_mono hm hv
  · simp only [Option.map_eq_some_iff] at hv ⊢
    obtain ⟨cs, hl, rfl⟩ := hv
    exact ⟨cs, loadN_mono hm hl, rfl⟩
  · rename_i ok zero b k
    cases hg : h.get b with
    | none => simp [hg] at hv
    | some x => rw [hm b x hg]; rw [hg] at hv; exact hv
  · exact hv
  · exact hv
  · rename_i b o len _ _
    cases hl : h.loadN b o len with
    | none => simp [hl] at hv
    | some cs => rw [loadN_mono hm hl]; rw [hl] at hv; exact hv
  · exact hv
  · rename_i b
    cases hg : h.get b with
    | none => simp [hg] at hv
    | some x => rw [hm b x hg]; rw [hg] at hv; exact hv
  · simp at hv

/-- What an operation that changes memory must come to. -/
def After (P : Program) (H0 : Nat) (ρ : Rho) (D : Dom) (h : Heap) (w : World) (s : Sem Next) (v : AV) (h' : Heap) : Prop :=
  ∃ ρ' w', (s.run P w = .ok (.value (real ρ' v)) w' ∨ (s.run P w = .ok .skip w' ∧ v = .undef)) ∧
    Inv P H0 ρ' (grow D h.next h'.next) h' w' ∧ Ext ρ D h w ρ' h' w' ∧ v.inD (grow D h.next h'.next)

theorem setRow_size (w : World) (g : Nat) (o : Obj) : (setRow w g o).heap.size = w.heap.size := by simp [setRow]

theorem store_real (i : Inv P H0 ρ D h w) {b o : Nat} {xs : List AV} (hd : D b) (hx : allD D xs) (hs : h.storeN b o xs = some h') :
    h'.next = h.next ∧ ∃ w', (storeCells ⟨(ρ b).blk, (ρ b).off + o, none⟩ (reals ρ xs)).run P w = .ok () w' ∧ Inv P H0 ρ D h' w' ∧ Ext ρ D h w ρ h' w' := by
  unfold Heap.storeN at hs
  split at hs
  · rename_i vs es hg
    cases hc : (Nat.ble (o + xs.length) vs.length && flatL xs) with
    | false => simp [hc] at hs
    | true =>
      simp only [hc, cond_true, Option.some.injEq] at hs
      subst hs
      simp only [Bool.and_eq_true] at hc
      have hle := Nat.le_of_ble_eq_true hc.1
      obtain ⟨c, t, fr, hcell, h1, h2⟩ := i.blk b _ hd hg
      obtain ⟨h3, h4, h5⟩ := h2 rfl
      have hwr : h.wr b = true := by simp [Heap.wr, hg]
      have hrun := run_storeCells (P := P) (ρ b).blk t fr (reals ρ xs) ((ρ b).off + o) 0 c w hcell (by
          intro v hv
          rw [reals_eq] at hv
          obtain ⟨x, hx', rfl⟩ := List.mem_map.1 hv
          exact flat_one (flatL_all hc.2 x hx')) (by rw [reals_length]; omega) h5
      refine ⟨rfl, _, hrun, ?_⟩
      have hlt := (Array.getElem?_eq_some_iff.1 hcell).1
      refine step_set i hd hwr rfl (setRow_size _ _ _) (fun r hr => by rw [setRow_get, if_neg hr]) rfl rfl rfl ?_
      refine ⟨_, t, fr, by rw [setRow_get, if_pos rfl, if_pos hlt], ?_, fun _ => ⟨h3, ?_, ?_⟩⟩
      · intro j v hj
        rw [Heap.get_splice _ _ _ _ hle] at hj
        rw [List.getElem?_toArray, Heap.get_splice _ _ _ _ (by simp [reals_length]; omega), reals_length]
        split at hj
        · rename_i hjj
          rw [if_pos ⟨by omega, by omega⟩]
          refine ⟨?_, (allD_iff D xs).1 hx v (List.mem_of_getElem? hj)⟩
          rw [reals_get, show (ρ b).off + j - ((ρ b).off + o + 0) = j - o by omega, hj]; rfl
        · rename_i hjj
          rw [if_neg (by omega)]
          have := h1 j v hj
          exact ⟨by simpa using this.1, this.2⟩
      · simp only [List.size_toArray, Heap.length_splice, Array.length_toList]
        exact h4
      · simpa [Heap.length_splice] using h5
  · simp at hs

end
end Ads
end Go.Proofs.Ytflmbknimebmnaa
