/-
  Regions that draw their order mean what they mean in the text's order: the induction.
-/
import Derived.Test.YtflmbknimebmnaaAdsDrawG
set_option linter.unusedSimpArgs false
set_option linter.unusedVariables false
namespace Go.Proofs.Ytflmbknimebmnaa
namespace Ads

section
variable {P : Program} {H0 : Nat} {D : Dom} {N : Nat} {l : List Ins} {bs : List Nat} {e : Env} {h : Heap} {tr : List Mark1} {e' : Env} {h' : Heap}
  {ρ0 : Rho} {w0 : World} {a0 : Act} {c : Nat} {ρ : Rho} {a : Act} {w : World} {i : Nat} {x : Ins} {m : Mark1} {ro : Option Nat} {n : Nat} {rd : Bool}

/-- One operation comes up. -/
theorem draw_step (R : Rg P H0 D N l bs e h tr e' h') {os : Array Oper} (hos : os.toList.map (compIns P os) = l) (hed : edgesOk bs os.toList = true)
    (hreads : readsOk (heapU l tr h') l ((List.range l.length).map (window bs l (effsOf l))) tr) {Q : Exit → Act → World → Prop} {S : Nat → Bool}
    (j : J P H0 D N l bs e h tr h' ρ0 w0 a0 S c ρ a w) (hcan : c ∈ 0 :: (effsOf l).map (· + 1)) {o : Oper} (ho : os[i]? = some o) (hsi : S i = false)
    (hpre : ∀ j, Bef bs i j → S j = true) {K : Act → World → Prop}
    (hk : ∀ c' ρ' a' w', c' ∈ 0 :: (effsOf l).map (· + 1) → J P H0 D N l bs e h tr h' ρ0 w0 a0 (plus1 S i) c' ρ' a' w' → K a' w') :
    wpOpIn (FW ro) n P os Q i K a w := by
  have hx : l[i]? = some (compIns P os o) := by
    rw [← hos, List.getElem?_map]
    simp [ho]
  obtain ⟨m, hm, hmh, hmv, hcase⟩ := R.ot.at hx
  have u : Up bs l tr S i (compIns P os o) m := ⟨hx, hm, hsi, hpre⟩
  have hvals := j.vals R u
  have hwant := j.wanted R u
  have hdst : (compIns P os o).dst = o.dst := (compIns_inv rfl).1
  have hcan' : cond (isEff (compIns P os o).op) (i + 1) c ∈ 0 :: (effsOf l).map (· + 1) := by
    cases he : isEff (compIns P os o).op with
    | false => exact hcan
    | true => exact List.mem_cons_of_mem _ (List.mem_map.2 ⟨i, mem_effsOf.2 ⟨_, hx, he⟩, rfl⟩)
  unfold wpOpIn
  rw [ho]
  simp only
  rcases hcase with ⟨hon, hw, hv, hst⟩ | ⟨hon, hw, hop⟩
  · have hg : (compIns P os o).guard.isSome = true := by
      cases hg : (compIns P os o).guard with
      | none => simp [wantedA, hg] at hw
      | some _ => rfl
    have hwr := wanted_real (P := P) (ops := os) rfl (.inr hg) j.env
    rw [if_neg (by rw [hwr, hwant, hw]; simp)]
    refine ⟨fun _ _ => trivial, ?_⟩
    have := hk _ _ _ _ hcan' (j.quiet R u hst (by unfold madeBy; split <;> simp_all) (by rw [hv]; simp [AV.undef, AV.inD, allD]))
    rw [hv, real_undef, hdst] at this
    exact this
  · have hnb : (compIns P os o).op ≠ .bad := by
      intro hb; rw [hb] at hop; exact hop
    have hwr := wanted_real (P := P) (ops := os) rfl (.inl hnb) j.env
    have hc := ((compIns_inv (P := P) (ops := os) (o := o) rfl).2 (.inl hnb)).1
    rw [if_pos (by rw [hwr, hwant, hw])]
    have hv2 : m.vals = (compIns P os o).args.map (envOf S l tr e).ev := by rw [hvals]; exact hmv
    have heff : isEff (compIns P os o).op = true → o.wpIn (FW ro) n P a w K Q := by
      intro he
      refine j.effect R u he hc hdst hmv hop ?_
      intro ρ' w' hj
      rw [he] at hcan'
      exact hk _ _ _ _ hcan' hj
    have hquiet : heapAt tr h' (i + 1) = heapAt tr h' i → madeBy (compIns P os o) m = none → isEff (compIns P os o).op = false → m.v.inD (DS D l tr h' S) → K (a.put o.dst (real ρ m.v)) w := by
      intro hst hmb he hv
      have := hk _ _ _ _ hcan' (j.quiet R u hst hmb hv)
      rw [hdst] at this
      exact this
    generalize hq : compIns P os o = q at *
    obtain ⟨qd, qg, qop, qargs⟩ := q
    simp only at *
    cases qop with
    | p p =>
      obtain ⟨hp, hst⟩ := hop
      rw [hv2] at hp
      have := pI_sound (w := w) j.env hc hp
      refine wpIn_of hc ?_
      rw [this.1]
      exact hquiet hst (by simp [madeBy]) rfl this.2
    | r r =>
      obtain ⟨hp, hst⟩ := hop
      have hed' := edges_of hed (i := i) (o := o) (by simpa using ho)
      have hr := j.read R u (o := r) rfl hon hed'.2.2 (fun p hp' hb => by
        obtain ⟨y, hy, _⟩ := mem_effsOf.1 hp'
        have hlt := (List.getElem?_eq_some_iff.1 hy).1
        rw [← hos, List.length_map] at hlt
        exact (edges_of hed (i := p) (o := os.toList[p]) (List.getElem?_eq_getElem hlt)).2.2 i hb) hcan hreads hp
      rw [hv2] at hr
      have := rI_sound j.env j.inv hc hr
      refine wpIn_of hc ?_
      rw [this.1]
      exact hquiet hst (by simp [madeBy]) rfl this.2
    | a o' =>
      obtain ⟨bk, f, hp, hmv', hst⟩ := hop
      have hmb : madeBy ⟨qd, qg, .a o', qargs⟩ m = some bk := by simp [madeBy, hon, hp]
      rw [hv2] at hp
      obtain ⟨obj, hrun, hblk, hf⟩ := aI_sound (H0 := H0) (w := w) j.env hc hp
      have hid : DS D l tr h' (plus1 S i) (heapAt tr h' i).next := by
        refine (DS_plus1 u.lt _).2 (.inr ⟨Nat.le_refl _, ?_⟩)
        rw [hst]; simp
      have hja := j.alloc R u hmb (obj := obj) (fun ρ' D' h1 h2 => hblk ρ' D' h1 h2 j.inv.low) (by rw [hmv']; exact hf _ _ hid)
      have := hk _ _ _ _ hcan hja
      refine wpIn_of hc ?_
      rw [hrun (heapAt tr h' i).next _ (upd_self _ _ _), ← hmv']
      show K (a.put o.dst _) _
      rw [← hdst]
      exact this
    | bad => exact hop.elim
    | e o' => exact heff rfl
    | call => exact heff rfl
    | invoke s => exact heff rfl
    | panic => exact heff rfl

theorem draw_any (R : Rg P H0 D N l bs e h tr e' h') {os : Array Oper} (hos : os.toList.map (compIns P os) = l) (hed : edgesOk bs os.toList = true)
    (hreads : readsOk (heapU l tr h') l ((List.range l.length).map (window bs l (effsOf l))) tr) {Q : Exit → Act → World → Prop}
    (hQ : ∀ ρ' a' w', Inv P H0 ρ' (grow D h.next h'.next) h' w' → Ext ρ0 D h w0 ρ' h' w' → EInv ρ' (grow D h.next h'.next) N e' a' → a'.defers = a0.defers → Q .normal a' w') :
    ∀ (fuel : Nat) (listed : Array Bool) (c : Nat) (ρ : Rho) (a : Act) (w : World), listed.size = os.size → c ∈ 0 :: (effsOf l).map (· + 1) →
      J P H0 D N l bs e h tr h' ρ0 w0 a0 (fun j => listed.getD j false) c ρ a w → os.size ≤ fuel + cnt (fun j => listed.getD j false) os.size →
      wpAnyIn (FW ro) n P .any os Q fuel listed a w := by
  have hlen : l.length = os.size := by rw [← hos]; simp
  intro fuel
  induction fuel with
  | zero =>
    intro listed c ρ a w hsz hcan hj hcnt
    have hall : ∀ k, k < os.size → listed.getD k false = true := cnt_full (fun j => listed.getD j false) os.size (by omega)
    refine ⟨?_, ?_⟩
    · rw [List.eq_nil_iff_forall_not_mem]
      intro i hi
      obtain ⟨h1, o, ho, _⟩ := mem_ready.1 hi
      have hlt := (Array.getElem?_eq_some_iff.1 ho).1
      have := hall i hlt
      simp [Array.getD_eq_getD_getElem?, hsz, hlt] at h1 this
      rw [h1] at this; simp at this
    · obtain ⟨g1, g2, g3, g4⟩ := hj.finish R (fun k hk => hall k (by omega))
      exact hQ ρ a w g1 g2 g3 g4
  | succ fuel ih =>
    intro listed c ρ a w hsz hcan hj hcnt
    refine ⟨fun hr => ?_, fun i hi => ?_⟩
    · -- nobody may come up: all are done
      have hall : ∀ k, k < os.size → listed.getD k false = true := by
        intro k
        induction k using Nat.strongRecOn with
        | _ k ihk =>
          intro hk
          cases hs : listed.getD k false with
          | true => rfl
          | false =>
            have hmem : k ∈ Region.ready .any os listed := by
              rw [mem_ready]
              refine ⟨by simp [Array.getD_eq_getD_getElem?, hsz, hk] at hs ⊢; exact hs, os[k], by simp [hk], fun ed hed' hb => ?_⟩
              have hlt := (edges_of hed (i := k) (o := os[k]) (by simp [hk])).2.1 ed (by simpa using hed') hb
              exact ihk ed.on hlt (by omega)
            rw [hr] at hmem
            simp at hmem
      obtain ⟨g1, g2, g3, g4⟩ := hj.finish R (fun k hk => hall k (by omega))
      exact hQ ρ a w g1 g2 g3 g4
    · obtain ⟨h1, o, ho, hafter⟩ := mem_ready.1 hi
      have hlt := (Array.getElem?_eq_some_iff.1 ho).1
      have hsi : listed.getD i false = false := by
        simp [Array.getD_eq_getD_getElem?, hsz, hlt] at h1 ⊢
        exact h1
      have hS : (fun j => (listed.setIfInBounds i true).getD j false) = plus1 (fun j => listed.getD j false) i := by
        funext k
        by_cases hk : k = i
        · subst hk
          simp [plus1, Array.getD_eq_getD_getElem?, hsz, hlt]
        · simp only [plus1, hk, decide_false, Bool.or_false]
          exact getD_set_ne false (fun e => hk e.symm)
      refine draw_step R hos hed hreads hj hcan ho hsi ?_ ?_
      · intro k hb
        obtain ⟨ed, hed', hbi, hon⟩ := (edges_of hed (i := i) (o := o) (by simpa using ho)).1 k hb
        have := hafter ed (by simpa using hed') hbi
        rcases hon with rfl | hon
        · exact this
        · exact hj.closed _ this k hon
      · intro c' ρ' a' w' hc' hj'
        refine ih (listed.setIfInBounds i true) c' ρ' a' w' (by simp [hsz]) hc' (by rw [hS]; exact hj') ?_
        rw [hS, cnt_plus1 (S := fun j => listed.getD j false) hsi]
        simp only [hlt, decide_true, cond_true]
        omega
end

section
variable {P : Program} {H0 : Nat} {e e' : Env} {h h' : Heap} {rd : Bool}

theorem sem_dops (hmix : P.follows .mixedOrders = true) {l : List Ins} {win : List (List Nat)} {tr : List Mark1} (hot : OT P H0 l e h tr e' h') (hreg : regionOk l win tr h') :
    CodeSem P H0 rd (.dops l win) e h .normal e' h' := by
  refine codeSem_of fun code hs hc N hN ro hro ρ D w a W0 n hi he hm hW => ?_
  obtain ⟨idr, os, rfl, hos, hpairs, hedges, rfl⟩ := compCode_dops hs hc
  have R : Rg P H0 D N l (befores os) e h tr e' h' := ⟨hot, hot.tra hos hN hi he, hi.lt, pairs_of hpairs, hN⟩
  refine wpIn_region_any hmix ?_
  have hi' : Inv P H0 ρ D h { w with drawn := w.drawn + 1 } := by
    refine ⟨hi.lt, hi.top, hi.low, fun b x hb hx => ?_, hi.apart⟩
    exact blkReal_keep (hi.blk b x hb hx) (fun _ => id) (fun _ _ => rfl) rfl
  have hS : (fun j => (Array.replicate os.size false).getD j false) = fun _ => false := by
    funext k
    simp [Array.getD_eq_getD_getElem?, Array.getElem?_replicate]
    split <;> simp
  have hst := J.start R hi' he
  rw [← hS] at hst
  refine draw_any R hos hedges hreg ?_ os.size _ 0 _ a _ (by simp) (by simp) hst (by omega)
  intro ρ' a' w' g1 g2 g3 g4
  have g2' : Ext ρ D h w ρ' h' w' := ⟨g2.next, g2.agree, g2.size, g2.frame, g2.aframe, g2.old, g2.fresh, g2.tape, g2.os, g2.output⟩
  exact ⟨rfl, ρ', g1, g2', g3, by rw [g4]; exact hm.ext hi.lt g2'⟩
end
end Ads
end Go.Proofs.Ytflmbknimebmnaa
