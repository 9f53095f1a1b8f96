/-
  Big steps are sound.
-/
import Derived.Test.YtmnolnoeibhjgaaGreatAdsDrawY
import Derived.Test.YtmnolnoeibhjgaaGreatAdsPan
import Derived.Test.YtmnolnoeibhjgaaGreatAdsDefer
import Derived.Test.YtmnolnoeibhjgaaGreatAdsAny
set_option linter.unusedSimpArgs false
set_option linter.unusedVariables false
namespace Go.Proofs.YtmnolnoeibhjgaaGreat
namespace Ads
section
variable {P:Program} {fs:Nat→Option aj} {ms:Nat→String→Option Nat}
theorem enters(sys:kW P fs ms){f:Nat}{af:aj}(hf:fs f=some af)(args:Array Value)(w:World):(callFunc f args).run P w=.ok (.enter f args) w:=by
 obtain⟨fn,hfn,Cz⟩:=sys.zc f af hf;obtain⟨c,rs,hb,hr,hname,hok,rfl⟩:=gU Cz;exact zU hfn hb hname args
theorem BS.sound(sys:kW P fs ms)(H0:Nat){t:Task}{r:iF}(h:BS fs ms t r):Sound P H0 t r:=by
 induction h with
 |skip=>exact⟨Iw,fun _ hc=>by simp at hc⟩
 |ops h1 ih=>exact⟨KC ih,fun _ hc=>by simp at hc⟩
 |bI h1 h2 ih=>exact⟨Iq sys.mixed ih h2,fun _ hc=>by simp at hc⟩
 |@wC rd a b e h e1 h1 r ha hb rm ng=>
  cases r with
  |code x e2 h2=>exact⟨Iu rm.1 ng.1,fun _ hc=>by simp at hc⟩
  |ops _ _ _=>trivial
  |val _ _=>trivial
  |jh _ _=>trivial
  |post _=>trivial
 |oz ha hx rm=>exact⟨Iv rm.1 hx,fun _ hc=>by simp at hc⟩
 |@cond rd c a b e h t r ht hb ng=>
  cases r with
  |code x e2 h2=>exact⟨Ip ht ng.1,fun _ hc=>by simp at hc⟩
  |ops _ _ _=>trivial
  |val _ _=>trivial
  |jh _ _=>trivial
  |post _=>trivial
 |nw ha rm=>exact⟨C2 rm.1,fun _ hc=>by simp at hc⟩
 |eR ha hx rm=>exact⟨C1 rm.1 hx,fun _ hc=>by simp at hc⟩
 |@lE rd c e h e1 h1 r ha hb rm ng=>
  cases r with
  |code x e2 h2=>
   have hl:=O3 rm.1 (ng.2 c rfl);exact⟨BD hl,fun c' hc=>by simp at hc;subst hc;exact hl⟩
  |ops _ _ _=>trivial
  |val _ _=>trivial
  |jh _ _=>trivial
  |post _=>trivial
 |cT ha hx rm=>
  have hl:=O4 rm.1 hx;exact⟨BD hl,fun c' hc=>by simp at hc;subst hc;exact hl⟩
 |exit=>exact⟨Is,fun _ hc=>by simp at hc⟩
 |ret=>exact⟨KD,fun _ hc=>by simp at hc⟩
 |rangeFunc hg hc hl hst hx lT=>exact⟨Fl hg lT.1 lT.2 hl hst hx,fun _ hc=>by simp at hc⟩
 |nil=>exact⟨rfl,rfl⟩
 |off hw hl ihl=>exact⟨rfl,rfl,.inl ⟨rfl,hw,rfl,ihl⟩⟩
 |on hw ho hl uc ihl=>exact⟨rfl,rfl,.inr ⟨rfl,hw,_,uc,ihl⟩⟩
 |B6 h=>exact⟨h,rfl⟩
 |Kc h=>exact⟨_,_,h,rfl,rfl⟩
 |DT h=>exact⟨h,rfl⟩
 |rL h=>exact Kf h
 |SA h=>exact Kg h
 |jH hc lT=>exact E9 lT
 |jX hm hc lT=>exact Bj sys hm lT.1 lT.2
 |cK hc lT=>exact Cg lT.1 lT.2
 |yield h1 h2 h3 h4 h5 h6 h7 ih3 ih5=>exact Fm h1 h2 ih3.1 h4 ih5.1 h6 h7
 |forget hs ho hc lT=>exact⟨At hs ho lT.1,lT.2⟩
 |za hs hc hn h1 ht lT=>exact⟨Au hs lT.1 hn h1 ht,lT.2⟩
 |@fresh f args h v h1 hc ha hv lT=>
  refine⟨?_,lT.2⟩;intro ρ D w n hi hd;refine CallsIn.mono (lT.1 ρ (fun _=>False) w n ⟨fun b hb=>hb.elim,fun b _=>rfl,hi.low,fun b x hb _=>hb.elim,fun b b' hb _ _ _ _=>hb.elim⟩ ha) ?_;rintro e w' ⟨ρ',rfl,g1,g2,g3⟩;have hold:∀r,r<w.heap.size→w'.heap[r]?=w.heap[r]?:=fun r hr=>g2.frame r hr (fun b hb=>hb.elim);refine⟨ρ,by rw[cn (ρ:=ρ) (ρ':=ρ') (fun b hb=>hb.elim) v hv],?_,?_,cO (fun b hb=>hb.elim) v hv⟩
  ·rw[bn];refine⟨hi.lt,hi.top,Nat.le_trans hi.low g2.size,fun b x hb hx=>?_,hi.apart⟩;have:=hi.bH b x hb hx;exact bR this (fun _=>id) (fun _ _=>rfl) (hold _ (gy this))
  ·exact⟨Nat.le_refl _,fun _ _=>rfl,g2.size,fun r hr _=>hold r hr,fun _ _ _=>rfl,fun b _ hb=>⟨hb,id⟩,fun b h1 h2=>by omega,g2.tape,g2.os,g2.output⟩
 |iP hg hc lT=>exact⟨C6 hg lT.1 lT.2,fun _ hc=>by simp at hc⟩
 |od h1 h2 h3 hn h4 B0 hA hl hw ho ih3 Hw ihl uc=>exact Da h1 h2 ih3.1 hn h4 B0 Hw.1 ihl hw uc
 |zD h1 hw ho ih1 uc=>exact⟨It ih1 hw uc,fun _ hc=>by simp at hc⟩
 |tS h1 hr hl he hw ho ih1 uc=>exact⟨Fk sys.mixed ih1 hr hl he hw uc,fun _ hc=>by simp at hc⟩
 |nM=>exact⟨by simp,CT⟩
 |kG hc lT=>exact⟨by simp,CS lT⟩
 |kQ hm hc lT=>exact⟨by simp,zx sys hm lT.1 lT.2⟩
 |nB hc lT=>exact Aw lT.1 lT.2
 |tQ hf hlen hb ng=>exact⟨Fj sys hf hlen ng.1,fun args w=>enters sys hf args w⟩
 |rW hf hlen GZ hA B0 Qj hr kr hx hg AY hbody A0 DI j8 jn Ho hy hres Hw ihl1 ihrest ihot JW=>
  exact⟨Fi sys hf hlen GZ Hw.1 B0 ihl1 hr ihrest.1 hx hg AY hbody A0 DI ihot jn JW.1 hy (fun args w=>enters sys hg args w) hres,fun args w=>enters sys hf args w⟩
 |@Ca rd c e h x e' h' Q hb hq ng=>exact⟨Jd ng.1 hq,fun c' hc=>FT (ng.2 c' hc) hq⟩
 |Cb ha hx hb rm ng=>exact⟨Je rm.1 hx (fun e1 h1 hr=>(ng e1 h1 hr).1),fun _ hc=>by simp at hc⟩
 |yS ht hb ng=>exact⟨FU ht ng.1,fun _ hc=>by simp at hc⟩
 |uZ hb hx ng=>exact⟨Ew ng.1 hx,fun _ hc=>by simp at hc⟩
 |@yT rd c e h R Q ha hx hb rm ng=>
  have hl:=Ev rm.1 hx (fun e1 h1 hr=>(ng e1 h1 hr).2 c rfl);exact⟨FV hl,fun c' hc=>by simp at hc;subst hc;exact hl⟩
 |yU T E H hc hne hl hq ihl=>exact⟨FX hc ihl hq,fun _ hc=>by simp at hc⟩
 |uD hf hlen hb hQ ng=>exact⟨F6 sys hf hlen ng.1 hQ,fun args w=>enters sys hf args w⟩
 |call hf hlen hb hx hr ng=>exact⟨Io sys hf hlen ng.1 hx hr,fun args w=>enters sys hf args w⟩
end
end Ads
end Go.Proofs.YtmnolnoeibhjgaaGreat
