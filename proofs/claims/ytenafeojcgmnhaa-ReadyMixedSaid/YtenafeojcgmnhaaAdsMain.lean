/-
  Big steps are sound.
-/
import Derived.Test.YtenafeojcgmnhaaAdsDrawY
import Derived.Test.YtenafeojcgmnhaaAdsPan
import Derived.Test.YtenafeojcgmnhaaAdsDefer
import Derived.Test.YtenafeojcgmnhaaAdsAny
set_option linter.unusedSimpArgs false
set_option linter.unusedVariables false
namespace Go.Proofs.Ytenafeojcgmnhaa
namespace Ads
section
variable {P:Program} {fs:Nat→Option aC} {ms:Nat→String→Option Nat}
theorem enters(sys:jc P fs ms){f:Nat}{af:aC}(hf:fs f=some af)(args:Array Value)(w:World):(callFunc f args).run P w=.ok (.enter f args) w:=by
 obtain⟨fn,hfn,Cp⟩:=sys.rU f af hf;obtain⟨c,rs,hb,hr,hname,hok,rfl⟩:=iA Cp;exact zy hfn hb hname args
theorem BS.sound(sys:jc P fs ms)(H0:Nat){t:Task}{r:jb}(h:BS fs ms t r):Sound P H0 t r:=by
 induction h with
 |skip=>exact⟨Il,fun _ hc=>by simp at hc⟩
 |ops h1 ih=>exact⟨KD ih,fun _ hc=>by simp at hc⟩
 |bN h1 h2 ih=>exact⟨Ig sys.mixed ih h2,fun _ hc=>by simp at hc⟩
 |@w7 rd a b e h e1 h1 r ha hb qS nj=>
  cases r with
  |code x e2 h2=>exact⟨Ij qS.1 nj.1,fun _ hc=>by simp at hc⟩
  |ops _ _ _=>trivial
  |val _ _=>trivial
  |jD _ _=>trivial
  |post _=>trivial
 |n9 ha hx qS=>exact⟨Ik qS.1 hx,fun _ hc=>by simp at hc⟩
 |@cond rd c a b e h t r ht hb nj=>
  cases r with
  |code x e2 h2=>exact⟨Ie ht nj.1,fun _ hc=>by simp at hc⟩
  |ops _ _ _=>trivial
  |val _ _=>trivial
  |jD _ _=>trivial
  |post _=>trivial
 |nv ha qS=>exact⟨CW qS.1,fun _ hc=>by simp at hc⟩
 |fR ha hx qS=>exact⟨CV qS.1 hx,fun _ hc=>by simp at hc⟩
 |@lI rd c e h e1 h1 r ha hb qS nj=>
  cases r with
  |code x e2 h2=>
   have hl:=Ng qS.1 (nj.2 c rfl);exact⟨BB hl,fun c' hc=>by simp at hc;subst hc;exact hl⟩
  |ops _ _ _=>trivial
  |val _ _=>trivial
  |jD _ _=>trivial
  |post _=>trivial
 |cQ ha hx qS=>
  have hl:=Nh qS.1 hx;exact⟨BB hl,fun c' hc=>by simp at hc;subst hc;exact hl⟩
 |exit=>exact⟨Ih,fun _ hc=>by simp at hc⟩
 |ret=>exact⟨KE,fun _ hc=>by simp at hc⟩
 |rangeFunc hg hc hl hst hx lW=>exact⟨Fh hg lW.1 lW.2 hl hst hx,fun _ hc=>by simp at hc⟩
 |nil=>exact⟨rfl,rfl⟩
 |off hw hl ihl=>exact⟨rfl,rfl,.inl ⟨rfl,hw,rfl,ihl⟩⟩
 |on hw ho hl tY ihl=>exact⟨rfl,rfl,.inr ⟨rfl,hw,_,tY,ihl⟩⟩
 |BV h=>exact⟨h,rfl⟩
 |Kk h=>exact⟨_,_,h,rfl,rfl⟩
 |D1 h=>exact⟨h,rfl⟩
 |IU h=>exact Kl h
 |Q0 h=>exact Km h
 |lJ hc lW=>exact E5 lW
 |j7 hm hc lW=>exact Bl sys hm lW.1 lW.2
 |cH hc lW=>exact B5 lW.1 lW.2
 |yield h1 h2 h3 h4 h5 h6 h7 ih3 ih5=>exact Fi h1 h2 ih3.1 h4 ih5.1 h6 h7
 |forget hs ho hc lW=>exact⟨Aq hs ho lW.1,lW.2⟩
 |Cj hs hc hn h1 ht lW=>exact⟨Ar hs lW.1 hn h1 ht,lW.2⟩
 |@fresh f args h v h1 hc ha hv lW=>
  refine⟨?_,lW.2⟩;intro ρ D w n hi hd;refine CallsIn.mono (lW.1 ρ (fun _=>False) w n ⟨fun b hb=>hb.elim,fun b _=>rfl,hi.low,fun b x hb _=>hb.elim,fun b b' hb _ _ _ _=>hb.elim⟩ ha) ?_;rintro e w' ⟨ρ',rfl,g1,g2,g3⟩;have hold:∀r,r<w.heap.size→w'.heap[r]?=w.heap[r]?:=fun r hr=>g2.frame r hr (fun b hb=>hb.elim);refine⟨ρ,by rw[cj (ρ:=ρ) (ρ':=ρ') (fun b hb=>hb.elim) v hv],?_,?_,cJ (fun b hb=>hb.elim) v hv⟩
  ·rw[bn];refine⟨hi.lt,hi.top,Nat.le_trans hi.low g2.size,fun b x hb hx=>?_,hi.apart⟩;have:=hi.bD b x hb hx;exact bR this (fun _=>id) (fun _ _=>rfl) (hold _ (gV this))
  ·exact⟨Nat.le_refl _,fun _ _=>rfl,g2.size,fun r hr _=>hold r hr,fun _ _ _=>rfl,fun b _ hb=>⟨hb,id⟩,fun b h1 h2=>by omega,g2.tape,g2.os,g2.output⟩
 |jM hg hc lW=>exact⟨CX hg lW.1 lW.2,fun _ hc=>by simp at hc⟩
 |pe h1 h2 h3 hn h4 DK hA hl hw ho ih3 Hg ihl tY=>exact CY h1 h2 ih3.1 hn h4 DK Hg.1 ihl hw tY
 |E7 h1 hw ho ih1 tY=>exact⟨Ii ih1 hw tY,fun _ hc=>by simp at hc⟩
 |xA h1 hr hl he hw ho ih1 tY=>exact⟨Fg sys.mixed ih1 hr hl he hw tY,fun _ hc=>by simp at hc⟩
 |pW=>exact⟨by simp,CJ⟩
 |nE hc lW=>exact⟨by simp,CI lW⟩
 |kT hm hc lW=>exact⟨by simp,zm sys hm lW.1 lW.2⟩
 |om hc lW=>exact At lW.1 lW.2
 |uQ hf hlen hb nj=>exact⟨Ff sys hf hlen nj.1,fun args w=>enters sys hf args w⟩
 |tP hf hlen GK hA DK MA hr kD hx hg AS hbody AW Fw kq kL G6 hy hres Hg ihl1 ihrest ihot JQ=>
  exact⟨Fe sys hf hlen GK Hg.1 DK ihl1 hr ihrest.1 hx hg AS hbody AW Fw ihot kL JQ.1 hy (fun args w=>enters sys hg args w) hres,fun args w=>enters sys hf args w⟩
 |@FP rd c e h x e' h' Q hb hq nj=>exact⟨I1 nj.1 hq,fun c' hc=>FO (nj.2 c' hc) hq⟩
 |FQ ha hx hb qS nj=>exact⟨I2 qS.1 hx (fun e1 h1 hr=>(nj e1 h1 hr).1),fun _ hc=>by simp at hc⟩
 |Dm ht hb nj=>exact⟨FR ht nj.1,fun _ hc=>by simp at hc⟩
 |Ag hb hx nj=>exact⟨Ep nj.1 hx,fun _ hc=>by simp at hc⟩
 |@Dn rd c e h R Q ha hx hb qS nj=>
  have hl:=Eo qS.1 hx (fun e1 h1 hr=>(nj e1 h1 hr).2 c rfl);exact⟨FT hl,fun c' hc=>by simp at hc;subst hc;exact hl⟩
 |Dp T E H hc hne hl hq ihl=>exact⟨FU hc ihl hq,fun _ hc=>by simp at hc⟩
 |yC hf hlen hb hQ nj=>exact⟨FZ sys hf hlen nj.1 hQ,fun args w=>enters sys hf args w⟩
 |call hf hlen hb hx hr nj=>exact⟨Ic sys hf hlen nj.1 hx hr,fun args w=>enters sys hf args w⟩
end
end Ads
end Go.Proofs.Ytenafeojcgmnhaa
