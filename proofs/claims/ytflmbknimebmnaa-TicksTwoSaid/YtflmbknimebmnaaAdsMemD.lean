/-
  Operations that write memory, together.
-/
import Derived.Test.YtflmbknimebmnaaAdsMemC
set_option linter.unusedSimpArgs false
set_option linter.unusedVariables false
namespace Go.Proofs.Ytflmbknimebmnaa
namespace Ads
section
variable {P : Program} {H0 : Nat} {ρ : Rho} {D : Dom} {h h' : Heap} {w : World} {n : Nat} {env : Env} {a : Act}

theorem drew_inv (i : Inv P H0 ρ D h w) : Inv P H0 ρ D h w.drew where
  lt := i.lt
  top := i.top
  low := i.low
  blk := fun b x hd hx => blkReal_keep (i.blk b x hd hx) (fun _ => id) (fun _ _ => rfl) rfl
  apart := i.apart

theorem del_inv (i : Inv P H0 ρ D h w) {b : Nat} (hd : D b) : Inv P H0 ρ D (h.del b) w ∧ Ext ρ D h w ρ (h.del b) w := by
  have hget : ∀ c x, (h.del b).get c = some x → h.get c = some x := by
    intro c x hx
    rw [Heap.get_del] at hx
    split at hx
    · simp at hx
    · exact hx
  have hwr : ∀ c, (h.del b).wr c = true → h.wr c = true := by
    intro c hx
    rw [wr_del] at hx
    split at hx
    · simp at hx
    · exact hx
  constructor
  · refine ⟨i.lt, ?_, i.low, fun c x hc hx => i.blk c x hc (hget c x hx), ?_⟩
    · intro c hc
      rw [Heap.get_del]
      split
      · rfl
      · exact i.top c hc
    · intro c c' hc hc' hne hw hg
      refine i.apart c c' hc hc' hne (hwr c hw) ?_
      cases hx : (h.del b).get c' with
      | none => exact absurd hx hg
      | some x => rw [hget c' x hx]; simp
  · refine ⟨Nat.le_refl _, fun _ _ => rfl, Nat.le_refl _, fun _ _ _ => rfl, ?_, ?_, fun _ h1 h2 => by simp at h2; omega, rfl, rfl, rfl⟩
    · intro c _ hc
      rw [Heap.get_del, if_neg (fun e => hc (by rw [e]; exact hd))]
    · intro c _ hn
      rw [Heap.get_del] at hn
      rw [wr_del]
      split at hn
      · simp at hn
      · rename_i hne
        rw [if_neg hne]; exact ⟨hn, rfl⟩

theorem append_case {o : Oper} {c : Call} {s x : Operand} {t u : TypeId} {ts : List TypeId} {e : TypeId} {d : TypeDesc} {size bytes : Nat} {z : AV} {rs : List Rand} {v : AV} {op : EOp}
    (he : EInv ρ D n env a) (i : Inv P H0 ρ D h w) (ho : o.op = .call c) (hcb : c.callee = .builtin .append) (hargs : c.args.toList = [s, x]) (htypes : c.argTypes.toList = t :: u :: ts)
    (hu : P.underlying t = some (.slice e)) (hd : P.underlying u = some d) (hsrc : isSrcD d = true) (hsz : sizeT P e = some size) (hb : bytesT P e = some bytes) (hz : zeroT P e = some z)
    (hzl : z.cells.length = size) (hc : one (.e (.append size bytes)) [s, x] = some (.e op, rs)) (hv : eI op (rs.map env.ev) h = some (v, h')) :
    After P H0 ρ D h w (execOp a.eval o) v h' := by
  obtain ⟨hq, hr⟩ := one_of hc
  simp only [IOp.e.injEq] at hq
  subst hq
  obtain ⟨r, q, rfl, h1, h2⟩ := rands_two hr
  have e1 := rand_real he h1
  have e2 := rand_real he h2
  rw [exec_builtin o c .append ho hcb, args_map hargs (ys := [real ρ (env.ev r), real ρ (env.ev q)]) (by simp [e1.1, e2.1])]
  simp only [List.map_cons, List.map_nil, eI] at hv
  have hat : ∃ ts', c.argTypes = (t :: u :: ts').toArray := ⟨ts, types_of htypes⟩
  obtain ⟨ts', hat⟩ := hat
  have happ : ∀ (x y : Value), Builtin.append_ (t :: u :: ts').toArray o.type #[x, y] = Builtin.append_ #[t, u] o.type #[x, y] := by
    intro x y; simp [Builtin.append_]
  rw [hat]
  have hbi : ∀ (l : Array Bool) (xs : List Value), builtin .append (t :: u :: ts').toArray o.type l xs.toArray = (do pure (.value (← Builtin.append_ (t :: u :: ts').toArray o.type xs.toArray))) := fun _ _ => rfl
  rw [hbi]
  rw [show ([real ρ (env.ev r), real ρ (env.ev q)] : List Value).toArray = #[real ρ (env.ev r), real ρ (env.ev q)] from rfl, happ]
  have fin : ∀ {ρ' : Rho} {w' : World} {v : AV}, (Builtin.append_ #[t, u] o.type #[real ρ (env.ev r), real ρ (env.ev q)]).run P w = .ok (real ρ' v) w' →
      (do pure (.value (← Builtin.append_ #[t, u] o.type #[real ρ (env.ev r), real ρ (env.ev q)])) : Sem Next).run P w = .ok (.value (real ρ' v)) w' := by
    intro ρ' w' v hh
    rw [Sem.run_bind, hh]; rfl
  cases hsc : srcCells size h (env.ev q) with
  | none => simp [hsc] at hv
  | some km =>
    obtain ⟨m, new⟩ := km
    simp only [hsc] at hv
    have hs := src_real (P := P) i e2.2 hsc
    have hs' := src_real (P := P) (drew_inv i) e2.2 hsc
    obtain ⟨hlen, hnd, _, hnew⟩ := hs
    have hnew' := hs'.2.2.2
    cases hfl : flatL new with
    | false => simp [hfl] at hv
    | true =>
      simp only [hfl, cond_true] at hv
      cases hr' : env.ev r with
      | nils =>
        rw [hr'] at hv
        simp only at hv
        cases hm0 : Nat.beq m 0 with
        | true =>
          have hm := Nat.eq_of_beq_eq_true hm0
          subst hm
          simp only [hm0, cond_true, Option.some.injEq, Prod.mk.injEq] at hv
          obtain ⟨rfl, rfl⟩ := hv
          rw [hr'] at fin
          refine ⟨ρ, w, .inl (fin (ρ' := ρ) (v := .nils) ?_), by rw [grow_self]; exact i, Ext.refl _ _ _ _, by simp [AV.inD]⟩
          exact run_fits (k := 0) (cap := 0) (base := none) hu hd hsrc hsz hlen hnew (Nat.le_refl _) (fun _ hh => by simp at hh) (fun _ => rfl)
        | false =>
          simp only [hm0, cond_false] at hv
          cases hg : (Nat.ble (m * bytes) 140737488355328 && Nat.ble m 9223372036854775807) with
          | false => simp [hg] at hv
          | true =>
            simp only [hg, cond_true, Option.some.injEq, Prod.mk.injEq] at hv
            obtain ⟨rfl, rfl⟩ := hv
            simp only [Bool.and_eq_true] at hg
            have g1 := Nat.le_of_ble_eq_true hg.1
            have g2 := Nat.le_of_ble_eq_true hg.2
            have hmne : m ≠ 0 := by intro e; rw [e] at hm0; simp at hm0
            obtain ⟨nc, hnc, hrun⟩ := run_grow (P := P) (w := w) (ρ := ρ) (ty := o.type) (k := 0) (cap := 0) (base := none) (old := #[]) hu hd hsrc hsz hb hz hlen (by simp [Builtin.firstCells]) hnew' (by omega) (by simpa using g1) (by omega)
            rw [hr'] at fin
            have hgr := grown_row i (w := w) e size (nc - m) (Builtin.zeroCells (real ρ z).cells (nc - m)) hnd (by rw [zeroCells_size, real_cells]; simp [reals_length, hzl])
            refine ⟨_, _, .inl (fin ?_), hgr.1, hgr.2, ?_⟩
            · simp only [real, hrun, Nat.zero_add]
              simp only [Array.empty_append, upd_self, cond_true, Nat.zero_add, Nat.add_zero]
              congr 2
              omega
            · simp only [AV.inD, grow]; exact .inr ⟨Nat.le_refl _, by simp⟩
      | sl b o' len cap opn =>
        rw [hr'] at hv e1
        simp only at hv
        simp only [AV.inD] at e1
        rw [hr'] at fin
        cases hfit : Nat.ble (len + m) cap with
        | true =>
          have hle := Nat.le_of_ble_eq_true hfit
          simp only [hfit, cond_true, Option.map_eq_some_iff, Prod.mk.injEq] at hv
          obtain ⟨h2, hst, rfl, rfl⟩ := hv
          obtain ⟨hnx, w', hrun, hinv, hext⟩ := store_real (P := P) i e1.2 hnd hst
          refine ⟨ρ, w', .inl (fin (ρ' := ρ) (v := .sl b o' (len + m) cap opn) ?_), by rw [hnx, grow_self]; exact hinv, hext, by rw [hnx, grow_self]; simpa [AV.inD] using e1.2⟩
          simp only [real]
          refine run_fits hu hd hsrc hsz hlen hnew ?_ ?_ (fun hh => by simp at hh)
          · cases opn <;> simp <;> omega
          · intro ad hh
            simp only [Option.some.injEq] at hh
            subst hh
            rw [add_real]
            exact hrun
        | false =>
          have hgt : ¬ len + m ≤ cap := fun hle => by rw [Nat.ble_eq_true_of_le hle] at hfit; simp at hfit
          simp only [hfit, cond_false] at hv
          cases hg : (Nat.ble ((len + m) * bytes) 140737488355328 && Nat.ble (len + m) 9223372036854775807) with
          | false => simp [hg] at hv
          | true =>
            simp only [hg, cond_true] at hv
            simp only [Bool.and_eq_true] at hg
            have g1 := Nat.le_of_ble_eq_true hg.1
            have g2 := Nat.le_of_ble_eq_true hg.2
            cases hgb : h.get b with
            | none => simp [hgb] at hv
            | some xb =>
              cases xb with
              | cells vs wr es =>
                cases hld : h.loadN b o' (len * size) with
                | none => simp [hgb, hld] at hv
                | some old =>
                  simp only [hgb, hld] at hv
                  have hlo := run_loadCells_real (P := P) i e1.2 hld
                  have hlo' := run_loadCells_real (P := P) (drew_inv i) e1.2 hld
                  have hcd : allD D (old ++ new) := by
                    rw [allD_iff]
                    intro y hy
                    rcases List.mem_append.1 hy with hy | hy
                    · exact (allD_iff D _).1 hlo.2 y hy
                    · exact (allD_iff D _).1 hnd y hy
                  -- a new row is made
                  have grows : ∀ rcap, ¬ len + m ≤ rcap → real ρ (.sl b o' len cap opn) = .slice (some ⟨(ρ b).blk, (ρ b).off + o', none⟩) len rcap →
                      ∃ nc, len + m ≤ nc ∧ (Builtin.append_ #[t, u] o.type #[real ρ (.sl b o' len cap opn), real ρ (env.ev q)]).run P w =
                        .ok (.slice (some ⟨w.heap.size, 0, none⟩) (len + m) nc) (w.drew.alloc (.cells ((reals ρ (old ++ new)).toArray ++ Builtin.zeroCells (real ρ z).cells (nc - (len + m))) e)) := by
                    intro rcap hrc hre
                    obtain ⟨nc, hnc, hrun⟩ := run_grow (P := P) (w := w) (ρ := ρ) (ty := o.type) (k := len) (cap := rcap) (base := some ⟨(ρ b).blk, (ρ b).off + o', none⟩) (old := (reals ρ old).toArray) hu hd hsrc hsz hb hz hlen
                      (by simp only [Builtin.firstCells]; exact hlo'.1) hnew' hrc g1 g2
                    refine ⟨nc, hnc, ?_⟩
                    rw [hre, hrun, reals_toArray_append]
                  have endgrow : ∀ (h2 : Heap), h2 = h.new (.cells (old ++ new) true size) → ∀ rcap, ¬ len + m ≤ rcap → real ρ (.sl b o' len cap opn) = .slice (some ⟨(ρ b).blk, (ρ b).off + o', none⟩) len rcap →
                      After P H0 ρ D h w (do pure (.value (← Builtin.append_ #[t, u] o.type #[real ρ (.sl b o' len cap opn), real ρ (env.ev q)])) : Sem Next) (.sl h.next 0 (len + m) (len + m) true) h2 := by
                    rintro h2 rfl rcap hrc hre
                    obtain ⟨nc, hnc, hrun⟩ := grows rcap hrc hre
                    have hgr := grown_row i (w := w) e size (nc - (len + m)) (Builtin.zeroCells (real ρ z).cells (nc - (len + m))) hcd (by rw [zeroCells_size, real_cells]; simp [reals_length, hzl])
                    refine ⟨_, _, .inl (fin ?_), hgr.1, hgr.2, ?_⟩
                    · rw [hrun]
                      simp only [real, upd_self, cond_true, Nat.zero_add, Nat.add_zero]
                      congr 2
                      omega
                    · simp only [AV.inD, grow]; exact .inr ⟨Nat.le_refl _, by simp⟩
                  cases opn with
                  | false =>
                    simp only [cond_false, Option.some.injEq, Prod.mk.injEq] at hv
                    obtain ⟨rfl, rfl⟩ := hv
                    exact endgrow _ rfl cap hgt (by simp [real])
                  | true =>
                    simp only [cond_true] at hv
                    cases hk : (wr && Nat.beq vs.length (o' + len * size) && Nat.beq cap len && Nat.beq es size) with
                    | false => simp [hk] at hv
                    | true =>
                      simp only [hk, cond_true, Option.some.injEq, Prod.mk.injEq] at hv
                      obtain ⟨rfl, rfl⟩ := hv
                      simp only [Bool.and_eq_true] at hk
                      obtain ⟨⟨⟨hwr, hvl⟩, hcl⟩, hes⟩ := hk
                      have hvl := Nat.eq_of_beq_eq_true hvl
                      have hcl := Nat.eq_of_beq_eq_true hcl
                      have hes := Nat.eq_of_beq_eq_true hes
                      subst hwr hcl hes
                      by_cases hroom : cap + m ≤ cap + (ρ b).extra
                      · -- there is room behind it
                        obtain ⟨c', tt, fr, hcell, hb1, hb2⟩ := i.blk b _ e1.2 hgb
                        obtain ⟨hb3, hb4, hb5⟩ := hb2 rfl
                        have hol : old.length = cap * es := (loadN_load1 hld).1
                        have hml : new.length = m * es := by
                          cases hq' : env.ev q with
                          | nils => rw [hq'] at hsc; simp [srcCells] at hsc; obtain ⟨rfl, rfl⟩ := hsc; simp
                          | sl b2 o2 l2 c2 op2 =>
                            rw [hq'] at hsc
                            simp only [srcCells, Option.map_eq_some_iff, Prod.mk.injEq] at hsc
                            obtain ⟨cs2, hl2, rfl, rfl⟩ := hsc
                            exact (loadN_load1 hl2).1
                          | str s2 =>
                            rw [hq'] at hsc
                            simp only [srcCells] at hsc
                            cases h1 : Nat.beq es 1 with
                            | false => simp [h1] at hsc
                            | true =>
                              simp only [h1, cond_true, Option.some.injEq, Prod.mk.injEq] at hsc
                              obtain ⟨rfl, rfl⟩ := hsc
                              rw [Nat.eq_of_beq_eq_true h1]; simp
                          | _ => rw [hq'] at hsc; simp [srcCells] at hsc
                        have hwrb : h.wr b = true := by simp [Heap.wr, hgb]
                        have hlt := (Array.getElem?_eq_some_iff.1 hcell).1
                        have hms : m * es ≤ (ρ b).extra * es := Nat.mul_le_mul_right _ (by omega)
                        have hme : m * es + ((ρ b).extra - m) * es = (ρ b).extra * es := by rw [← Nat.add_mul]; congr 1; omega
                        have hst := run_storeCells (P := P) (ρ b).blk tt fr (reals ρ new) ((ρ b).off + (o' + cap * es)) 0 c' w hcell (by
                            intro y hy
                            rw [reals_eq] at hy
                            obtain ⟨x', hx', rfl⟩ := List.mem_map.1 hy
                            exact flat_one (flatL_all hfl x' hx')) (by rw [reals_length]; omega) hb5
                        have hag : ∀ y, D y → upd ρ h.next ⟨(ρ b).blk, (ρ b).off + o', (ρ b).extra - m⟩ y = ρ y := fun y hy => upd_ne _ _ (by have := i.lt y hy; omega)
                        have hmv := step_move i (w' := setRow w (ρ b).blk (.cells (Heap.splice c'.toList ((ρ b).off + (o' + cap * es) + 0) (reals ρ new)).toArray tt fr)) (old ++ new) es ⟨(ρ b).blk, (ρ b).off + o', (ρ b).extra - m⟩ rfl e1.2 hwrb (setRow_size _ _ _) (fun r hr => by rw [setRow_get, if_neg hr]) rfl rfl rfl (by
                          refine ⟨_, tt, fr, by rw [setRow_get, if_pos rfl, if_pos hlt], ?_, fun _ => ⟨hb3, ?_, ?_⟩⟩
                          · intro j y hj
                            have hyd := (allD_iff D _).1 hcd y (List.mem_of_getElem? hj)
                            rw [real_agree hag y hyd]
                            refine ⟨?_, inD_mono (fun _ => .inl) y hyd⟩
                            rw [List.getElem?_toArray, Heap.get_splice _ _ _ _ (by simp [reals_length]; omega), reals_length]
                            by_cases hjo : j < old.length
                            · rw [List.getElem?_append_left hjo] at hj
                              rw [if_neg (by simp only; omega)]
                              have hl1 := (loadN_load1 hld).2 j y hj
                              have hvj : vs[o' + j]? = some y := by
                                simpa [Heap.load1, Heap.row, hgb] using hl1
                              have := (hb1 _ _ hvj).1
                              simpa [Nat.add_assoc] using this
                            · rw [List.getElem?_append_right (by omega)] at hj
                              have hjl : j - old.length < new.length := (List.getElem?_eq_some_iff.1 hj).1
                              rw [if_pos (by simp only; omega), reals_get]
                              simp only
                              rw [show (ρ b).off + o' + j - ((ρ b).off + (o' + cap * es) + 0) = j - old.length by omega, hj]
                              rfl
                          · simp only [List.size_toArray, Heap.length_splice, Array.length_toList, List.length_append]
                            omega
                          · simpa [Heap.length_splice] using hb5)
                        refine ⟨_, _, .inl (fin (v := .sl h.next 0 (cap + m) (cap + m) true) ?_), hmv.1, hmv.2, by simp only [AV.inD, grow]; exact .inr ⟨Nat.le_refl _, by simp⟩⟩
                        have hfits := run_fits (P := P) (ty := o.type) (base := some ⟨(ρ b).blk, (ρ b).off + o', none⟩) (k := cap) (cap := cap + (ρ b).extra) hu hd hsrc hsz hlen hnew hroom (fun ad hh => by
                          simp only [Option.some.injEq] at hh
                          subst hh
                          rw [add_real]
                          exact hst) (fun hh => by simp at hh)
                        simp only [real, cond_true, upd_self, hfits, Nat.add_zero]
                        congr 2
                        omega
                      · have hdel := del_inv i e1.2
                        obtain ⟨nc, hnc, hrun⟩ := grows (cap + (ρ b).extra) hroom (by simp [real])
                        have hgr := grown_row hdel.1 (w := w) e es (nc - (cap + m)) (Builtin.zeroCells (real ρ z).cells (nc - (cap + m))) hcd (by rw [zeroCells_size, real_cells]; simp [reals_length, hzl])
                        have hext := Ext.trans i.lt hdel.2 (by rw [show (h.del b).next = h.next from rfl, grow_self]; exact hgr.2)
                        refine ⟨_, _, .inl (fin ?_), hgr.1, hext, ?_⟩
                        · rw [hrun]
                          simp only [real, upd_self, cond_true, Nat.zero_add, Nat.add_zero, Heap.next_del]
                          congr 2
                          omega
                        · simp only [AV.inD, grow]; exact .inr ⟨Nat.le_refl _, by simp⟩
              | _ => simp [hgb] at hv
      | _ => rw [hr'] at hv; simp at hv

theorem copy_case {o : Oper} {c : Call} {s x : Operand} {t : TypeId} {ts : List TypeId} {e : TypeId} {size : Nat} {rs : List Rand} {v : AV} {op : EOp}
    (he : EInv ρ D n env a) (i : Inv P H0 ρ D h w) (ho : o.op = .call c) (hcb : c.callee = .builtin .copy) (hargs : c.args.toList = [s, x]) (htypes : c.argTypes.toList = t :: ts)
    (hu : P.underlying t = some (.slice e)) (hsz : sizeT P e = some size) (hc : one (.e (.copy size)) [s, x] = some (.e op, rs)) (hv : eI op (rs.map env.ev) h = some (v, h')) :
    After P H0 ρ D h w (execOp a.eval o) v h' := by
  obtain ⟨hq, hr⟩ := one_of hc
  simp only [IOp.e.injEq] at hq
  subst hq
  obtain ⟨r, q, rfl, h1, h2⟩ := rands_two hr
  have e1 := rand_real he h1
  have e2 := rand_real he h2
  rw [exec_builtin o c .copy ho hcb, args_map hargs (ys := [real ρ (env.ev r), real ρ (env.ev q)]) (by simp [e1.1, e2.1])]
  simp only [List.map_cons, List.map_nil, eI] at hv
  have hbi : ∀ (l : Array Bool) (xs : List Value), builtin .copy c.argTypes o.type l xs.toArray = (do pure (.value (← Builtin.copy_ c.argTypes o.type xs.toArray))) := fun _ _ => rfl
  rw [hbi, types_of htypes]
  have hsz' : (sizeOf e).run P w = .ok size w := run_sizeOf hsz
  cases hr' : env.ev r with
  | nils =>
    rw [hr'] at hv
    cases hsc : srcCells size h (env.ev q) with
    | none => simp [hsc] at hv
    | some km =>
      obtain ⟨m, new⟩ := km
      simp only [hsc, Option.some.injEq, Prod.mk.injEq] at hv
      obtain ⟨rfl, rfl⟩ := hv
      obtain ⟨hlen, hnd, htake, hnew⟩ := src_real (P := P) i e2.2 hsc
      have h0 : (Builtin.firstCells size 0 (real ρ (env.ev q))).run P w = .ok #[] w := by
        cases hq : env.ev q with
        | str s' => simp [real, Builtin.firstCells]
        | sl b o l c op =>
          have := htake (fun s e => by rw [hq] at e; simp at e) 0 (Nat.zero_le _)
          rw [hq] at this
          simpa [reals] using this
        | nils => simp [real, Builtin.firstCells]
        | _ => rw [hq] at hsc; simp [srcCells] at hsc
      refine ⟨ρ, w, .inl ?_, by rw [grow_self]; exact i, Ext.refl _ _ _ _, by simp [AV.inD]⟩
      simp [Builtin.copy_, run_underlying hu, hlen, hsz', real, Result.andThen, h0, goInt]
  | sl b o' len cap opn =>
    rw [hr'] at hv e1
    simp only [AV.inD] at e1
    cases hsc : srcCells size h (env.ev q) with
    | none => simp [hsc] at hv
    | some km =>
      obtain ⟨m, new⟩ := km
      simp only [hsc, Option.map_eq_some_iff, Prod.mk.injEq] at hv
      obtain ⟨h2, hst, rfl, rfl⟩ := hv
      obtain ⟨hlen, hnd, htake, hnew⟩ := src_real (P := P) i e2.2 hsc
      have htd : allD D (new.take (min m len * size)) := by
        rw [allD_iff] at hnd ⊢
        exact fun y hy => hnd y (List.mem_of_mem_take hy)
      have hfc : (Builtin.firstCells size (min m len) (real ρ (env.ev q))).run P w = .ok (reals ρ (new.take (min m len * size))).toArray w := by
        cases hq : env.ev q with
        | str s' =>
          rw [hq] at hsc
          simp only [srcCells] at hsc
          cases h1 : Nat.beq size 1 with
          | false => simp [h1] at hsc
          | true =>
            simp only [h1, cond_true, Option.some.injEq, Prod.mk.injEq] at hsc
            obtain ⟨rfl, rfl⟩ := hsc
            have hs1 := Nat.eq_of_beq_eq_true h1
            subst hs1
            simp only [Builtin.firstCells, real, Sem.run_pure]
            congr 1
            have : (⟨s'.toArray⟩ : ByteArray).extract 0 (min s'.length len) = ⟨(s'.take (min s'.length len)).toArray⟩ := by
              apply ByteArray.ext
              rw [ByteArray.data_extract]
              apply Array.ext'
              simp [List.extract_eq_take_drop]
            rw [this]
            apply Array.ext'
            simp [reals_eq, real, Function.comp_def, List.map_take]
        | sl b2 o2 l2 c2 op2 =>
          have := htake (fun s e => by rw [hq] at e; simp at e) (min m len) (Nat.min_le_left _ _)
          rw [hq] at this; exact this
        | nils =>
          have := htake (fun s e => by rw [hq] at e; simp at e) (min m len) (Nat.min_le_left _ _)
          rw [hq] at this; exact this
        | _ => rw [hq] at hsc; simp [srcCells] at hsc
      obtain ⟨hnx, w', hrun, hinv, hext⟩ := store_real (P := P) i e1.2 htd hst
      refine ⟨ρ, w', .inl ?_, by rw [hnx, grow_self]; exact hinv, hext, by simp [AV.inD]⟩
      simp only [real] at hlen hfc ⊢
      simp [Builtin.copy_, run_underlying hu, hlen, hsz', Result.andThen, hfc, hrun, goInt]
      show ((min m len : Nat) : Int) = min (m : Int) len
      omega
  | _ =>
    rw [hr'] at hv
    cases hsc : srcCells size h (env.ev q) with
    | none => simp [hsc] at hv
    | some km => simp [hsc] at hv

theorem eI_sound {o : Oper} {op : EOp} {rs : List Rand} {v : AV} (he : EInv ρ D n env a) (i : Inv P H0 ρ D h w) (hc : compOp P o.op = some (.e op, rs)) (hv : eI op (rs.map env.ev) h = some (v, h')) :
    After P H0 ρ D h w (execOp a.eval o) v h' := by
  cases ho : o.op <;> rw [ho] at hc
  case store t x y =>
    simp only [compOp, Option.bind_eq_some_iff] at hc
    obtain ⟨k, hk, hc⟩ := hc
    obtain ⟨hq, hr⟩ := one_of hc
    simp only [IOp.e.injEq] at hq
    subst hq
    obtain ⟨r, q, rfl, h1, h2⟩ := rands_two hr
    have e1 := rand_real he h1
    have e2 := rand_real he h2
    simp only [List.map_cons, List.map_nil] at hv
    cases hr' : env.ev r with
    | ptr b o' =>
      rw [hr'] at hv e1
      simp only [AV.inD] at e1
      simp only [eI] at hv
      cases hb : Nat.beq (env.ev q).cells.length k with
      | false => simp [hb] at hv
      | true =>
        simp only [hb, cond_true, Option.map_eq_some_iff, Prod.mk.injEq] at hv
        obtain ⟨h2', hst, rfl, rfl⟩ := hv
        have hkl := Nat.eq_of_beq_eq_true hb
        obtain ⟨hnx, w', hrun, hinv, hext⟩ := store_real (P := P) i e1.2 (cells_inD e2.2) hst
        refine ⟨ρ, w', .inr ⟨?_, rfl⟩, by rw [hnx, grow_self]; exact hinv, hext, by simp [AV.undef, AV.inD, allD]⟩
        unfold execOp; rw [ho]
        simp only [e1.1, e2.1, real, Instr.storeAt, Instr.sureAddr, Sem.run_bind, Sem.run_pure, Result.andThen, storeVar, real_cells, run_sizeOf hk]
        rw [if_neg (by simp [reals_length, hkl])]
        simp only [hrun, List.toList_toArray]
    | _ => rw [hr'] at hv; simp [eI] at hv
  case call c =>
    simp only [compOp] at hc
    split at hc
    · simp only [Option.map_eq_some_iff] at hc; obtain ⟨_, _, hc⟩ := hc; simp at hc
    · simp only [Option.map_eq_some_iff] at hc; obtain ⟨_, _, hc⟩ := hc; simp at hc
    · rename_i b hcb
      split at hc
      · exfalso
        repeat' (first
          | (obtain ⟨_, _, h2⟩ := one_some hc; simp at h2; done)
          | (simp at hc; done)
          | (split at hc))
      · exfalso; obtain ⟨_, _, h2⟩ := one_some hc; simp at h2
      · exfalso; obtain ⟨_, _, h2⟩ := one_some hc; simp at h2
      · rename_i s x t u ts hargs htypes
        split at hc
        · rename_i e d hu hd
          split at hc
          · simp at hc
          · rename_i hsrc
            split at hc
            · rename_i size bytes z hsz hb hz
              split at hc
              · simp at hc
              · rename_i hzl
                exact append_case he i ho hcb hargs htypes hu hd (by simpa using hsrc) hsz hb hz (by simpa using hzl) hc hv
            · simp at hc
        · simp at hc
      · rename_i s x t ts hargs htypes
        split at hc
        · rename_i e hu
          simp only [Option.bind_eq_some_iff] at hc
          obtain ⟨size, hsz, hc⟩ := hc
          exact copy_case he i ho hcb hargs htypes hu hsz hc hv
        · simp at hc
      · exfalso
        repeat' (first
          | (simp only [Option.bind_eq_some_iff] at hc; obtain ⟨_, _, hc⟩ := hc)
          | (obtain ⟨_, _, h2⟩ := one_some hc; simp at h2; done)
          | (simp at hc; done)
          | (split at hc))
      · simp at hc
  case unOp u t x =>
    exfalso
    cases u <;> simp only [compOp] at hc <;> first
      | (obtain ⟨_, _, h2⟩ := one_some hc; simp at h2; done)
      | (simp at hc; done)
  case makeMap t r =>
    exfalso
    cases r with
    | none => simp only [compOp] at hc; obtain ⟨hq, _⟩ := one_of hc; simp at hq
    | some r => simp [compOp] at hc
  all_goals (exfalso; simp only [compOp] at hc)
  all_goals repeat' (first
    | (simp only [Option.bind_eq_some_iff] at hc; obtain ⟨_, _, hc⟩ := hc)
    | (simp only [Option.map_eq_some_iff] at hc; obtain ⟨_, _, hc⟩ := hc; simp at hc; done)
    | (obtain ⟨_, _, h2⟩ := one_some hc; simp at h2; done)
    | (simp at hc; done)
    | (split at hc))
end
end Ads
end Go.Proofs.Ytflmbknimebmnaa
