/-
  Big steps are sound.
-/
import Derived.Test.YtnlcabhfkpafmaaGreatAdsDrawY
import Derived.Test.YtnlcabhfkpafmaaGreatAdsPan
import Derived.Test.YtnlcabhfkpafmaaGreatAdsDefer
import Derived.Test.YtnlcabhfkpafmaaGreatAdsAny
set_option linter.unusedSimpArgs false
set_option linter.unusedVariables false
namespace Go.Proofs.YtnlcabhfkpafmaaGreat
namespace Ads
section
variable {P:Program} {fs:Nat→Option an} {ms:Nat→String→Option Nat}
theorem enters(sys:ou P fs ms){f:Nat}{af:an}(hf:fs f=some af)(args:Array Value)(w:World):(callFunc f args).run P w=.ok (.enter f args) w:=by
 obtain⟨fn,hfn,CW⟩:=sys.CO f af hf;obtain⟨c,rs,hb,hr,hname,hok,rfl⟩:=ie CW;exact Ae hfn hb hname args
theorem BS.sound(sys:ou P fs ms)(H0:Nat){t:Task}{r:SE}(h:BS fs ms t r):Sound P H0 t r:=by
 induction h with
 |skip=>exact⟨Ki,fun _ hc=>by simp at hc⟩
 |ops h1 ih=>exact⟨OK ih,fun _ hc=>by simp at hc⟩
 |cn h1 h2 ih=>exact⟨Kb sys.mixed ih h2,fun _ hc=>by simp at hc⟩
 |@Dy rd a b e h e1 h1 r ha hb tJ oF=>
  cases r with
  |code x e2 h2=>exact⟨Kg tJ.1 oF.1,fun _ hc=>by simp at hc⟩
  |ops _ _ _=>trivial
  |val _ _=>trivial
  |mC _ _=>trivial
  |post _=>trivial
 |tU ha hx tJ=>exact⟨Kh tJ.1 hx,fun _ hc=>by simp at hc⟩
 |@cond rd c a b e h t r ht hb oF=>
  cases r with
  |code x e2 h2=>exact⟨Ka ht oF.1,fun _ hc=>by simp at hc⟩
  |ops _ _ _=>trivial
  |val _ _=>trivial
  |mC _ _=>trivial
  |post _=>trivial
 |tg ha tJ=>exact⟨Dv tJ.1,fun _ hc=>by simp at hc⟩
 |kz ha hx tJ=>exact⟨Du tJ.1 hx,fun _ hc=>by simp at hc⟩
 |@uv rd c e h e1 h1 r ha hb tJ oF=>
  cases r with
  |code x e2 h2=>
   have hl:=RF tJ.1 (oF.2 c rfl);exact⟨B7 hl,fun c' hc=>by simp at hc;subst hc;exact hl⟩
  |ops _ _ _=>trivial
  |val _ _=>trivial
  |mC _ _=>trivial
  |post _=>trivial
 |iB ha hx tJ=>
  have hl:=RG tJ.1 hx;exact⟨B7 hl,fun c' hc=>by simp at hc;subst hc;exact hl⟩
 |exit=>exact⟨Ke,fun _ hc=>by simp at hc⟩
 |ret=>exact⟨OL,fun _ hc=>by simp at hc⟩
 |rangeFunc hg hc hl hst hx qI=>exact⟨Gx hg qI.1 qI.2 hl hst hx,fun _ hc=>by simp at hc⟩
 |nil=>exact⟨rfl,rfl⟩
 |off hw hl ihl=>exact⟨rfl,rfl,.inl ⟨rfl,hw,rfl,ihl⟩⟩
 |on hw ho hl Da ihl=>exact⟨rfl,rfl,.inr ⟨rfl,hw,_,Da,ihl⟩⟩
 |KO h=>exact⟨h,rfl⟩
 |SU h=>exact⟨_,_,h,rfl,rfl⟩
 |Jl h=>exact⟨h,rfl⟩
 |RP h=>exact NQ h
 |WE h=>exact NR h
 |tN hc qI=>exact Gh qI
 |o8 hm hc qI=>exact BJ sys hm qI.1 qI.2
 |fD hc qI=>exact Cw qI.1 qI.2
 |yield h1 h2 h3 h4 h5 h6 h7 ih3 ih5=>exact Gy h1 h2 ih3.1 h4 ih5.1 h6 h7
 |forget hs ho hc qI=>exact⟨AP hs ho qI.1,qI.2⟩
 |Qs hs hc hn h1 ht qI=>exact⟨AQ hs qI.1 hn h1 ht,qI.2⟩
 |@fresh f args h v h1 hc ha hv qI=>
  refine⟨?_,qI.2⟩;intro ρ D w n hi hd;refine CallsIn.mono (qI.1 ρ (fun _=>False) w n ⟨fun b hb=>hb.elim,fun b _=>rfl,hi.low,fun b x hb _=>hb.elim,fun b b' hb _ _ _ _=>hb.elim⟩ ha) ?_;rintro e w' ⟨ρ',rfl,g1,g2,g3⟩;have hold:∀r,r<w.heap.size→w'.heap[r]?=w.heap[r]?:=fun r hr=>g2.frame r hr (fun b hb=>hb.elim);refine⟨ρ,by rw[cu (ρ:=ρ) (ρ':=ρ') (fun b hb=>hb.elim) v hv],?_,?_,cK (fun b hb=>hb.elim) v hv⟩
  ·rw[bp];refine⟨hi.lt,hi.top,Nat.le_trans hi.low g2.size,fun b x hb hx=>?_,hi.apart⟩;have:=hi.bK b x hb hx;exact bQ this (fun _=>id) (fun _ _=>rfl) (hold _ (gF this))
  ·exact⟨Nat.le_refl _,fun _ _=>rfl,g2.size,fun r hr _=>hold r hr,fun _ _ _=>rfl,fun b _ hb=>⟨hb,id⟩,fun b h1 h2=>by omega,g2.tape,g2.os,g2.output⟩
 |nY hg hc qI=>exact⟨Dw hg qI.1 qI.2,fun _ hc=>by simp at hc⟩
 |Au h1 h2 h3 hn h4 FP hA hl hw ho ih3 ihA ihl Da=>exact Dx h1 h2 ih3.1 hn h4 FP ihA.1 ihl hw Da
 |NT h1 hw ho ih1 Da=>exact⟨Kf ih1 hw Da,fun _ hc=>by simp at hc⟩
 |D3 h1 hr hl he hw ho ih1 Da=>exact⟨Gw sys.mixed ih1 hr hl he hw Da,fun _ hc=>by simp at hc⟩
 |vf=>exact⟨by simp,Dl⟩
 |ve hc qI=>exact⟨by simp,Dk qI⟩
 |qa hm hc qI=>exact⟨by simp,zZ sys hm qI.1 qI.2⟩
 |zj hc qI=>exact AR qI.1 qI.2
 |DW hf hlen hb oF=>exact⟨Gv sys hf hlen oF.1,fun args w=>enters sys hf args w⟩
 |DV hf hlen Im hA FP Eg hr kP hx hg Bi hbody Bl GO kB j7 IL hy hres ihA ihl1 ihrest ihot Nq=>
  exact⟨Gu sys hf hlen Im ihA.1 FP ihl1 hr ihrest.1 hx hg Bi hbody Bl GO ihot j7 Nq.1 hy (fun args w=>enters sys hg args w) hres,fun args w=>enters sys hf args w⟩
 |@PX rd c e h x e' h' Q hb hq oF=>exact⟨Mx oF.1 hq,fun c' hc=>Hj (oF.2 c' hc) hq⟩
 |PY ha hx hb tJ oF=>exact⟨My tJ.1 hx (fun e1 h1 hr=>(oF e1 h1 hr).1),fun _ hc=>by simp at hc⟩
 |Ms ht hb oF=>exact⟨Hl ht oF.1,fun _ hc=>by simp at hc⟩
 |Hi hb hx oF=>exact⟨Fj oF.1 hx,fun _ hc=>by simp at hc⟩
 |@Mt rd c e h R Q ha hx hb tJ oF=>
  have hl:=Fi tJ.1 hx (fun e1 h1 hr=>(oF e1 h1 hr).2 c rfl);exact⟨Ho hl,fun c' hc=>by simp at hc;subst hc;exact hl⟩
 |Mu T E H hc hne hl hq ihl=>exact⟨AF hc ihl hq,fun _ hc=>by simp at hc⟩
 |MG hf hlen hb hQ oF=>exact⟨HA sys hf hlen oF.1 hQ,fun args w=>enters sys hf args w⟩
 |call hf hlen hb hx hr oF=>exact⟨J9 sys hf hlen oF.1 hx hr,fun args w=>enters sys hf args w⟩
end
end Ads
end Go.Proofs.YtnlcabhfkpafmaaGreat
