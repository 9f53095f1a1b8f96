/-
  Big steps are sound.
-/
import Derived.Test.YtlndlbngfgaoeaaAdsDrawY
import Derived.Test.YtlndlbngfgaoeaaAdsPan
import Derived.Test.YtlndlbngfgaoeaaAdsDefer
import Derived.Test.YtlndlbngfgaoeaaAdsAny
set_option linter.unusedSimpArgs false
set_option linter.unusedVariables false
namespace Go.Proofs.Ytlndlbngfgaoeaa
namespace Ads

section
variable {P : Program} {fs : Nat → Option AFunc} {ms : Nat → String → Option Nat}

theorem enters (sys : SysOk P fs ms) {f : Nat} {af : AFunc} (hf : fs f = some af) (args : Array Value) (w : World) : (callFunc f args).run P w = .ok (.enter f args) w := by
 obtain ⟨fn, hfn, hcf⟩ := sys.fsOk f af hf
 obtain ⟨c, rs, hb, hr, hname, hok, rfl⟩ := compFunc_inv hcf
 exact run_callFunc hfn hb hname args

theorem BS.sound (sys : SysOk P fs ms) (H0 : Nat) {t : Task} {r : Res} (h : BS fs ms t r) : Sound P H0 t r := by
 induction h with
 | skip => exact ⟨sem_skip, fun _ hc => by simp at hc⟩
 | ops h1 ih => exact ⟨sem_ops ih, fun _ hc => by simp at hc⟩
 | dops h1 h2 ih => exact ⟨sem_dops sys.mixed ih h2, fun _ hc => by simp at hc⟩
 | @seqN rd a b e h e1 h1 r ha hb iha ihb =>
  cases r with
  | code x e2 h2 => exact ⟨sem_seqN iha.1 ihb.1, fun _ hc => by simp at hc⟩
  | ops _ _ _ => trivial
  | val _ _ => trivial
  | pan _ _ => trivial
  | post _ => trivial
 | seqX ha hx iha => exact ⟨sem_seqX iha.1 hx, fun _ hc => by simp at hc⟩
 | @cond rd c a b e h t r ht hb ihb =>
  cases r with
  | code x e2 h2 => exact ⟨sem_cond ht ihb.1, fun _ hc => by simp at hc⟩
  | ops _ _ _ => trivial
  | val _ _ => trivial
  | pan _ _ => trivial
  | post _ => trivial
 | blockX ha iha => exact ⟨sem_blockX iha.1, fun _ hc => by simp at hc⟩
 | blockN ha hx iha => exact ⟨sem_blockN iha.1 hx, fun _ hc => by simp at hc⟩
 | @loopN rd c e h e1 h1 r ha hb iha ihb =>
  cases r with
  | code x e2 h2 =>
   have hl := loop_N iha.1 (ihb.2 c rfl)
   exact ⟨sem_loop hl, fun c' hc => by simp at hc; subst hc; exact hl⟩
  | ops _ _ _ => trivial
  | val _ _ => trivial
  | pan _ _ => trivial
  | post _ => trivial
 | loopX ha hx iha =>
  have hl := loop_X iha.1 hx
  exact ⟨sem_loop hl, fun c' hc => by simp at hc; subst hc; exact hl⟩
 | exit => exact ⟨sem_exit, fun _ hc => by simp at hc⟩
 | ret => exact ⟨sem_ret, fun _ hc => by simp at hc⟩
 | rangeFunc hg hc hl hst hx ihc => exact ⟨sem_range hg ihc.1 ihc.2 hl hst hx, fun _ hc => by simp at hc⟩
 | nil => exact ⟨rfl, rfl⟩
 | off hw hl ihl => exact ⟨rfl, rfl, .inl ⟨rfl, hw, rfl, ihl⟩⟩
 | on hw ho hl iho ihl => exact ⟨rfl, rfl, .inr ⟨rfl, hw, _, iho, ihl⟩⟩
 | opP h => exact ⟨h, rfl⟩
 | opA h => exact ⟨_, _, h, rfl, rfl⟩
 | opR h => exact ⟨h, rfl⟩
 | opE h => exact opE_sem h
 | opK h => exact opK_sem h
 | opCall hc ihc => exact opCall_ok ihc
 | opInvoke hm hc ihc => exact opInvoke_ok sys hm ihc.1 ihc.2
 | callv hc ihc => exact callv_func ihc.1 ihc.2
 | yield h1 h2 h3 h4 h5 h6 h7 ih3 ih5 => exact sem_yield h1 h2 ih3.1 h4 ih5.1 h6 h7
 | forget hs ho hc ihc => exact ⟨call_forget hs ho ihc.1, ihc.2⟩
 | frameU hs hc hn h1 ht ihc => exact ⟨call_frameU hs ihc.1 hn h1 ht, ihc.2⟩
 | @fresh f args h v h1 hc ha hv ihc =>
  refine ⟨?_, ihc.2⟩
  intro ρ D w n hi hd
  refine CallsIn.mono (ihc.1 ρ (fun _ => False) w n ⟨fun b hb => hb.elim, fun b _ => rfl, hi.low, fun b x hb _ => hb.elim, fun b b' hb _ _ _ _ => hb.elim⟩ ha) ?_
  rintro e w' ⟨ρ', rfl, g1, g2, g3⟩
  have hold : ∀ r, r < w.heap.size → w'.heap[r]? = w.heap[r]? := fun r hr => g2.frame r hr (fun b hb => hb.elim)
  refine ⟨ρ, by rw [real_agree (ρ := ρ) (ρ' := ρ') (fun b hb => hb.elim) v hv], ?_, ?_, inD_mono (fun b hb => hb.elim) v hv⟩
  ·rw [grow_self]
   refine ⟨hi.lt, hi.top, Nat.le_trans hi.low g2.size, fun b x hb hx => ?_, hi.apart⟩
   have := hi.blk b x hb hx
   exact blkReal_keep this (fun _ => id) (fun _ _ => rfl) (hold _ (blkReal_lt this))
  ·exact ⟨Nat.le_refl _, fun _ _ => rfl, g2.size, fun r hr _ => hold r hr, fun _ _ _ => rfl, fun b _ hb => ⟨hb, id⟩, fun b h1 h2 => by omega, g2.tape, g2.os, g2.output⟩
 | rangeFuncP hg hc ihc => exact ⟨sem_rangeP hg ihc.1 ihc.2, fun _ hc => by simp at hc⟩
 | yieldP h1 h2 h3 hn h4 hnA hA hl hw ho ih3 ihA ihl iho => exact sem_yieldP h1 h2 ih3.1 hn h4 hnA ihA.1 ihl hw iho
 | opsP h1 hw ho ih1 iho => exact ⟨sem_opsP ih1 hw iho, fun _ hc => by simp at hc⟩
 | dopsP h1 hr hl he hw ho ih1 iho => exact ⟨sem_dopsP sys.mixed ih1 hr hl he hw iho, fun _ hc => by simp at hc⟩
 | opPanic => exact ⟨by simp, opPanic_ok⟩
 | opCallP hc ihc => exact ⟨by simp, opCall_okP ihc⟩
 | opInvokeP hm hc ihc => exact ⟨by simp, opInvoke_okP sys hm ihc.1 ihc.2⟩
 | callvP hc ihc => exact callv_funcP ihc.1 ihc.2
 | callP hf hlen hb ihb => exact ⟨sem_callP sys hf hlen ihb.1, fun args w => enters sys hf args w⟩
 | callD hf hlen hfb hA hnA hl1 hr hrest hx hg hglen hbody hgres hnr hot hpl hrest2 hy hres ihA ihl1 ihrest ihot ihrest2 =>
  exact ⟨sem_callD sys hf hlen hfb ihA.1 hnA ihl1 hr ihrest.1 hx hg hglen hbody hgres hnr ihot hpl ihrest2.1 hy (fun args w => enters sys hg args w) hres, fun args w => enters sys hf args w⟩
 | @anyOne rd c e h x e' h' Q hb hq ihb => exact ⟨any_one ihb.1 hq, fun c' hc => anyL_one (ihb.2 c' hc) hq⟩
 | anySeq ha hx hb iha ihb => exact ⟨any_seq iha.1 hx (fun e1 h1 hr => (ihb e1 h1 hr).1), fun _ hc => by simp at hc⟩
 | anyCond ht hb ihb => exact ⟨any_cond ht ihb.1, fun _ hc => by simp at hc⟩
 | anyBlock hb hx ihb => exact ⟨any_block ihb.1 hx, fun _ hc => by simp at hc⟩
 | @anyLoop rd c e h R Q ha hx hb iha ihb =>
  have hl := anyL_loop iha.1 hx (fun e1 h1 hr => (ihb e1 h1 hr).2 c rfl)
  exact ⟨any_loop hl, fun c' hc => by simp at hc; subst hc; exact hl⟩
 | anyNext T E H hc hne hl hq ihl => exact ⟨any_next hc ihl hq, fun _ hc => by simp at hc⟩
 | callAny hf hlen hb hQ ihb => exact ⟨call_any sys hf hlen ihb.1 hQ, fun args w => enters sys hf args w⟩
 | call hf hlen hb hx hr ihb => exact ⟨sem_call sys hf hlen ihb.1 hx hr, fun args w => enters sys hf args w⟩
end
end Ads
end Go.Proofs.Ytlndlbngfgaoeaa
