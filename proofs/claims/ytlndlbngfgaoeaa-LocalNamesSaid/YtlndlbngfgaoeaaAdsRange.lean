/-
  What big steps mean in the model: the statement 'for .. := range g', g a function.
-/
import Derived.Test.YtlndlbngfgaoeaaAdsRound
set_option linter.unusedSimpArgs false
set_option linter.unusedVariables false
namespace Go.Proofs.Ytlndlbngfgaoeaa
namespace Ads
section
variable {P : Program} {H0 W0 : Nat} {ρ ρ' : Rho} {D D' : Dom} {h h' h1 h2 : Heap} {w w' : World} {N n : Nat} {env e e' : Env} {a : Act} {ro : Option Nat} {rd : Bool}

theorem sem_range {g : Rand} {ps : List Nat} {x y : AC} {f : Nat} {first capt : List AV} {v : AV} {st : Nat} {ax : AX} (hg : e.ev g = .func (.func f) first capt)
  (hc : CallSem P H0 f (first ++ (.yield h.next :: capt)) (h.new (.loop 0 none e ps x y)) v h2) (hent : ∀ (args : Array Value) (w : World), (callFunc f args).run P w = .ok (.enter f args) w)
  (hg2 : h2.get h.next = some (.loop st (pendOf ax) e ps x y)) (hst : st ≠ 1) (hnp : ∀ v, ax ≠ .panic v) :
  CodeSem P H0 false (.rangeFunc g ps x y) e h ax e (h2.set h.next (.loop 3 (pendOf ax) e ps x y)) := by
 refine codeSem_of fun code hs hcc N hN ro hro ρ D w a W0 n tl hi he hm hW => ?_
 obtain ⟨gq, qs, cx, cy, rfl, hgq, hqs, hx, hy⟩ := compCode_range hs hcc
 have hro' : ro = none := by cases ro <;> simp_all
 subst hro'
 simp only [codeOk, Bool.and_eq_true] at hN
 refine wpIn_rangeFunc ?_
 intro fn _
 let wd := w.alloc (.deferred (some []))
 have hwd : wd.heap.size = w.heap.size + 1 := by show (w.heap.push _).size = _; simp
 let lp : Loop := { state := .ready, pending := none, fn := fn, tmps := a.tmps, params := qs, assign := cx, body := cy, defers := w.heap.size }
 have hpush := inv_push hi (.deferred (some []))
 have hag0 : ∀ b, D b → upd ρ h.next ⟨wd.heap.size, 0, 0⟩ b = ρ b := fun b hb => upd_ne _ _ (by have := hi.lt b hb; omega)
 have he1 : EInv (upd ρ h.next ⟨wd.heap.size, 0, 0⟩) (grow D h.next (h.next + 1)) N e a := he.mono hag0 (fun _ => .inl)
 have hnew := step_new (w := wd) (w' := wd.alloc (.loop lp)) hpush.1 (.loop 0 none e ps x y) 0 (.loop lp) rfl rfl rfl rfl
  ⟨hpush.1.low, lp, alloc_new wd _, rfl, rfl, he1.get, he1.dom, hqs, hx, hy, by rw [show lp.tmps.size = N from he.size]; exact hN.1.2, by rw [show lp.tmps.size = N from he.size]; exact hN.2, by rw [show lp.tmps.size = N from he.size]; exact hN.1.1⟩
 have hext0 : Ext ρ D h w (upd ρ h.next ⟨wd.heap.size, 0, 0⟩) (h.new (.loop 0 none e ps x y)) (wd.alloc (.loop lp)) := Ext.trans hi.lt hpush.2 (by rw [grow_self]; exact hnew.2)
 have hgr := rand_real he hgq
 rw [hg] at hgr
 have hgr1 := rand_real he1 hgq
 rw [hg] at hgr1
 simp only [AV.inD] at hgr1
 refine ⟨wd.heap.size, [{ target := .collected w.heap.size, args := #[] }], wd.alloc (.loop lp), { target := .fn (.func f) (reals (upd ρ h.next ⟨wd.heap.size, 0, 0⟩) capt).toArray, args := (reals (upd ρ h.next ⟨wd.heap.size, 0, 0⟩) first).toArray ++ #[.func (.yield wd.heap.size) #[] #[]] }, wd.alloc (.loop lp), f,
  (reals (upd ρ h.next ⟨wd.heap.size, 0, 0⟩) (first ++ (.yield h.next :: capt))).toArray, wd.alloc (.loop lp), ?_, ?_, fun _ _ => trivial, ?_, fun hh => by simp [FW, Fence.wide] at hh, ?_⟩
 ·show (Instr.enterLoop fn a.tmps qs cx cy none).run P w = _
  simp only [Instr.enterLoop, Sem.run_bind, run_newObj_alloc, Result.andThen, Sem.run_pure]
  rfl
 ·simp only [resolve]
  rw [show a.eval gq = real (upd ρ h.next ⟨wd.heap.size, 0, 0⟩) (.func (.func f) first capt) from hgr1.1]
  simp [Deferred.ofValue, real, Act.eval]
 ·simp only [invoke, hent]
  congr 2
  have : real (upd ρ h.next ⟨wd.heap.size, 0, 0⟩) (.yield h.next) = .func (.yield wd.heap.size) #[] #[] := by simp [real, upd_self]
  simp [reals_append, reals, this]
 ·have hda : allD (grow D h.next (h.next + 1)) (first ++ (.yield h.next :: capt)) := by
   rw [allD_iff]
   intro z hz
   rcases List.mem_append.1 hz with hz | hz
   ·exact (allD_iff _ _).1 hgr1.2.2.1 z hz
   ·rcases List.mem_cons.1 hz with hz | hz
    ·rw [hz]; simp only [AV.inD]; exact .inr ⟨Nat.le_refl _, by omega⟩
    ·exact (allD_iff _ _).1 hgr1.2.2.2 z hz
  refine CallsIn.mono (hc (upd ρ h.next ⟨wd.heap.size, 0, 0⟩) (grow D h.next (h.next + 1)) (wd.alloc (.loop lp)) (n - 1) hnew.1 hda) ?_
  rintro en w3 ⟨ρ2, rfl, i2, x2, _⟩
  have hL1 : grow D h.next (h.next + 1) h.next := .inr ⟨Nat.le_refl _, by omega⟩
  have hnx : (h.new (.loop 0 none e ps x y)).next = h.next + 1 := rfl
  rw [hnx] at i2
  have hL2 : grow (grow D h.next (h.next + 1)) (h.next + 1) h2.next h.next := .inl hL1
  have hagL : ρ2 h.next = ⟨wd.heap.size, 0, 0⟩ := by rw [x2.agree h.next hL1, upd_self]
  obtain ⟨_, r2, hr2, hst2, hpd2, htm2, hed2, hps2, hca2, hcb2, hoka2, hokb2, hbel2⟩ := i2.blk h.next _ hL2 hg2
  have hset := loop_set i2 hL2 hg2 hr2 (st' := 3) (pend' := pendOf ax) (r' := { r2 with state := .exhausted }) ⟨rfl, hpd2, htm2, hed2, hps2, hca2, hcb2, hoka2, hokb2, hbel2⟩
  have hblk : (ρ2 h.next).blk = wd.heap.size := by rw [hagL]
  have hstate : (r2.state == .busy) = false := by
   rw [hst2]
   match st, hst with
   | 0, _ => rfl
   | 1, h => exact absurd rfl h
   | 2, _ => rfl
   | k + 3, _ => rfl
  have hend : (Instr.endLoop wd.heap.size).run P w3 = .ok r2.pending (setRow w3 (ρ2 h.next).blk (.loop { r2 with state := .exhausted })) := by
   rw [← hblk]
   simp only [Instr.endLoop, Sem.run_bind, run_getLoop hr2, Result.andThen, hstate, Bool.false_eq_true, if_false, run_setObj hr2 (fun _ _ _ => by simp), Sem.run_pure]
  have hn2 : h.next + 1 ≤ h2.next := by have := x2.next; rw [hnx] at this; exact this
  have x2' : Ext (upd ρ h.next ⟨wd.heap.size, 0, 0⟩) (grow D h.next (h.next + 1)) (h.new (.loop 0 none e ps x y)) (wd.alloc (.loop lp)) ρ2 (h2.set h.next (.loop 3 (pendOf ax) e ps x y)) (setRow w3 (ρ2 h.next).blk (.loop { r2 with state := .exhausted })) :=
   Ext.trans hnew.1.lt x2 (by rw [hnx]; exact hset.2)
  have xall := Ext.trans hi.lt hext0 (by rw [hnx]; exact x2')
  have hgg := grow_grow D (show h.next ≤ h.next + 1 by omega) hn2
  have iall : Inv P H0 ρ2 (grow D h.next h2.next) (h2.set h.next (.loop 3 (pendOf ax) e ps x y)) (setRow w3 (ρ2 h.next).blk (.loop { r2 with state := .exhausted })) := by
   rw [← hgg]; exact hset.1
  have eall : EInv ρ2 (grow D h.next h2.next) N e { a with defers := [{ target := .collected w.heap.size, args := #[] }] ++ a.defers } := by
   have := he.mono (ρ' := ρ2) (D' := grow D h.next h2.next) (fun b hb => xall.agree b hb) (fun _ => .inl)
   exact ⟨this.size, this.get, this.dom⟩
  have mall : MInv tl W0 ρ2 (grow D h.next h2.next) (h2.set h.next (.loop 3 (pendOf ax) e ps x y)) (setRow w3 (ρ2 h.next).blk (.loop { r2 with state := .exhausted })) ([{ target := .collected w.heap.size, args := #[] }] ++ a.defers) := by
   have m1 : MInv tl W0 (upd ρ h.next ⟨wd.heap.size, 0, 0⟩) (grow D h.next (h.next + 1)) (h.new (.loop 0 none e ps x y)) (wd.alloc (.loop lp)) ([{ target := .collected w.heap.size, args := #[] }] ++ a.defers) := by
    obtain ⟨rs, q1, q2, q3⟩ := hm.ext hi.lt hext0
    rw [hnx] at q3
    refine ⟨w.heap.size :: rs, by rw [q1]; rfl, ?_, ?_⟩
    ·refine List.nodup_cons.2 ⟨?_, q2⟩
     intro hmem
     obtain ⟨rs', q1', q2', q3'⟩ := hm
     have : rs = rs' := by
      have he := q1.symm.trans q1'
      have he := List.append_cancel_right he
      have hinj := congrArg (List.map (fun d : Deferred => match d.target with | .collected r => r | _ => 0)) he
      simpa [marksOf, Function.comp_def] using hinj
     rw [this] at hmem
     have := (Array.getElem?_eq_some_iff.1 (q3' _ hmem).2.1).1
     omega
    ·intro r hr
     rcases List.mem_cons.1 hr with rfl | hr
     ·refine ⟨hW, ?_, ?_⟩
      ·show ((w.heap.push _).push _)[w.heap.size]? = _
       rw [Array.getElem?_push, if_neg (by simp), Array.getElem?_push, if_pos rfl]
      ·rintro b (hb | ⟨hb1, hb2⟩) hn
       ·rw [hag0 b hb]
        rw [Heap.get_new, if_neg (by have := hi.lt b hb; omega)] at hn
        have := hi.ltw hb hn
        omega
       ·have : b = h.next := by omega
        subst this
        rw [upd_self]
        simp only
        omega
     ·exact q3 r hr
   have := m1.ext hnew.1.lt x2'
   rw [hnx] at this
   rw [← hgg]; exact this
  refine ⟨r2.pending, _, hend, ?_⟩
  have post : ∀ ex, ExIs ρ2 (grow D h.next h2.next) ax ex → PostC P H0 (noRange (.rangeFunc g ps x y)) a.defers tl W0 ρ D h w N ax e (h2.set h.next (.loop 3 (pendOf ax) e ps x y)) ex { a with defers := [{ target := .collected w.heap.size, args := #[] }] ++ a.defers } (setRow w3 (ρ2 h.next).blk (.loop { r2 with state := .exhausted })) := by
   intro ex hex
   exact ⟨ρ2, hex, iall, xall, eall, mall, fun hn => by simp [noRange] at hn⟩
  generalize setRow w3 (ρ2 h.next).blk (.loop { r2 with state := .exhausted }) = w4 at post ⊢
  cases ax with
  | normal =>
   have : r2.pending = none := hpd2
   rw [this]
   exact post _ rfl
  | exit id =>
   have : r2.pending = some (.exit id) := hpd2
   rw [this]
   exact wpIn_exit (post _ rfl)
  | ret =>
   have : r2.pending = some .ret := hpd2
   rw [this]
   exact wpIn_ret (post _ rfl)
  | panic v => exact absurd rfl (hnp v)
end
end Ads
end Go.Proofs.Ytlndlbngfgaoeaa
