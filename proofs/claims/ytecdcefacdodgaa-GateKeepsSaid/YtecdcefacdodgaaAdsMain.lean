/-
  Big steps are sound.
-/
import Derived.Test.YtecdcefacdodgaaAdsDrawY
import Derived.Test.YtecdcefacdodgaaAdsPan
import Derived.Test.YtecdcefacdodgaaAdsDefer
import Derived.Test.YtecdcefacdodgaaAdsAny
set_option linter.unusedSimpArgs false
set_option linter.unusedVariables false
namespace Go.Proofs.Ytecdcefacdodgaa
namespace Ads
section
variable {P:Program} {fs:Nat→Option az} {ms:Nat→String→Option Nat}
theorem enters(sys:kZ P fs ms){f:Nat}{af:az}(hf:fs f=some af)(args:Array Value)(w:World):(callFunc f args).run P w=.ok (.enter f args) w:=by
 obtain⟨fn,hfn,Ds⟩:=sys.zW f af hf;obtain⟨c,rs,hb,hr,hname,hok,rfl⟩:=gA Ds;exact Ap hfn hb hname args
theorem BS.sound(sys:kZ P fs ms)(H0:Nat){t:Task}{r:iw}(h:BS fs ms t r):Sound P H0 t r:=by
 induction h with
 |skip=>exact⟨JZ,fun _ hc=>by simp at hc⟩
 |ops h1 ih=>exact⟨MP ih,fun _ hc=>by simp at hc⟩
 |cm h1 h2 ih=>exact⟨JU sys.mixed ih h2,fun _ hc=>by simp at hc⟩
 |@xX rd a b e h e1 h1 r ha hb q9 nu=>
  cases r with
  |code x e2 h2=>exact⟨JX q9.1 nu.1,fun _ hc=>by simp at hc⟩
  |ops _ _ _=>trivial
  |val _ _=>trivial
  |jm _ _=>trivial
  |post _=>trivial
 |ou ha hx q9=>exact⟨JY q9.1 hx,fun _ hc=>by simp at hc⟩
 |@cond rd c a b e h t r ht hb nu=>
  cases r with
  |code x e2 h2=>exact⟨JT ht nu.1,fun _ hc=>by simp at hc⟩
  |ops _ _ _=>trivial
  |val _ _=>trivial
  |jm _ _=>trivial
  |post _=>trivial
 |nD ha q9=>exact⟨D5 q9.1,fun _ hc=>by simp at hc⟩
 |eO ha hx q9=>exact⟨D4 q9.1 hx,fun _ hc=>by simp at hc⟩
 |@mo rd c e h e1 h1 r ha hb q9 nu=>
  cases r with
  |code x e2 h2=>
   have hl:=PA q9.1 (nu.2 c rfl);exact⟨Ci hl,fun c' hc=>by simp at hc;subst hc;exact hl⟩
  |ops _ _ _=>trivial
  |val _ _=>trivial
  |jm _ _=>trivial
  |post _=>trivial
 |c9 ha hx q9=>
  have hl:=PB q9.1 hx;exact⟨Ci hl,fun c' hc=>by simp at hc;subst hc;exact hl⟩
 |exit=>exact⟨JV,fun _ hc=>by simp at hc⟩
 |ret=>exact⟨MQ,fun _ hc=>by simp at hc⟩
 |rangeFunc hg hc hl hst hx l5=>exact⟨Gy hg l5.1 l5.2 hl hst hx,fun _ hc=>by simp at hc⟩
 |nil=>exact⟨rfl,rfl⟩
 |off hw hl ihl=>exact⟨rfl,rfl,.inl ⟨rfl,hw,rfl,ihl⟩⟩
 |on hw ho hl ur ihl=>exact⟨rfl,rfl,.inr ⟨rfl,hw,_,ur,ihl⟩⟩
 |CN h=>exact⟨h,rfl⟩
 |ME h=>exact⟨_,_,h,rfl,rfl⟩
 |Fa h=>exact⟨h,rfl⟩
 |KE h=>exact MF h
 |SI h=>exact MG h
 |lI hc l5=>exact Gk l5
 |jU hm hc l5=>exact B3 sys hm l5.1 l5.2
 |cu hc l5=>exact CX l5.1 l5.2
 |yield h1 h2 h3 h4 h5 h6 h7 ih3 ih5=>exact Gz h1 h2 ih3.1 h4 ih5.1 h6 h7
 |forget hs ho hc l5=>exact⟨A2 hs ho l5.1,l5.2⟩
 |Dg hs hc hn h1 ht l5=>exact⟨A3 hs l5.1 hn h1 ht,l5.2⟩
 |@fresh f args h v h1 hc ha hv l5=>
  refine⟨?_,l5.2⟩;intro ρ D w n hi hd;refine CallsIn.mono (l5.1 ρ (fun _=>False) w n ⟨fun b hb=>hb.elim,fun b _=>rfl,hi.low,fun b x hb _=>hb.elim,fun b b' hb _ _ _ _=>hb.elim⟩ ha) ?_;rintro e w' ⟨ρ',rfl,g1,g2,g3⟩;have hold:∀r,r<w.heap.size→w'.heap[r]?=w.heap[r]?:=fun r hr=>g2.frame r hr (fun b hb=>hb.elim);refine⟨ρ,by rw[bU (ρ:=ρ) (ρ':=ρ') (fun b hb=>hb.elim) v hv],?_,?_,cz (fun b hb=>hb.elim) v hv⟩
  ·rw[aY];refine⟨hi.lt,hi.top,Nat.le_trans hi.low g2.size,fun b x hb hx=>?_,hi.apart⟩;have:=hi.bB b x hb hx;exact bG this (fun _=>id) (fun _ _=>rfl) (hold _ (fX this))
  ·exact⟨Nat.le_refl _,fun _ _=>rfl,g2.size,fun r hr _=>hold r hr,fun _ _ _=>rfl,fun b _ hb=>⟨hb,id⟩,fun b h1 h2=>by omega,g2.tape,g2.os,g2.output⟩
 |jz hg hc l5=>exact⟨D6 hg l5.1 l5.2,fun _ hc=>by simp at hc⟩
 |pN h1 h2 h3 hn h4 EY hA hl hw ho ih3 I5 ihl ur=>exact D7 h1 h2 ih3.1 hn h4 EY I5.1 ihl hw ur
 |Gm h1 hw ho ih1 ur=>exact⟨JW ih1 hw ur,fun _ hc=>by simp at hc⟩
 |yp h1 hr hl he hw ho ih1 ur=>exact⟨Gx sys.mixed ih1 hr hl he hw ur,fun _ hc=>by simp at hc⟩
 |qc=>exact⟨by simp,DO⟩
 |nL hc l5=>exact⟨by simp,DN l5⟩
 |kP hm hc l5=>exact⟨by simp,Ai sys hm l5.1 l5.2⟩
 |oE hc l5=>exact A5 l5.1 l5.2
 |vr hf hlen hb nu=>exact⟨Gw sys hf hlen nu.1,fun args w=>enters sys hf args w⟩
 |tY hf hlen mh hA EY Qs hr kq hx hg BF hbody BG GY j7 mI IS hy hres I5 ihl1 ihrest ihot Mf=>
  exact⟨Gv sys hf hlen mh I5.1 EY ihl1 hr ihrest.1 hx hg BF hbody BG GY ihot mI Mf.1 hy (fun args w=>enters sys hg args w) hres,fun args w=>enters sys hf args w⟩
 |@Hp rd c e h x e' h' Q hb hq nu=>exact⟨Lu nu.1 hq,fun c' hc=>Hl (nu.2 c' hc) hq⟩
 |Hq ha hx hb q9 nu=>exact⟨Lv q9.1 hx (fun e1 h1 hr=>(nu e1 h1 hr).1),fun _ hc=>by simp at hc⟩
 |Es ht hb nu=>exact⟨Hr ht nu.1,fun _ hc=>by simp at hc⟩
 |AM hb hx nu=>exact⟨FD nu.1 hx,fun _ hc=>by simp at hc⟩
 |@Et rd c e h R Q ha hx hb q9 nu=>
  have hl:=FC q9.1 hx (fun e1 h1 hr=>(nu e1 h1 hr).2 c rfl);exact⟨Hs hl,fun c' hc=>by simp at hc;subst hc;exact hl⟩
 |Eu T E H hc hne hl hq ihl=>exact⟨AO hc ihl hq,fun _ hc=>by simp at hc⟩
 |zy hf hlen hb hQ nu=>exact⟨HA sys hf hlen nu.1 hQ,fun args w=>enters sys hf args w⟩
 |call hf hlen hb hx hr nu=>exact⟨JS sys hf hlen nu.1 hx hr,fun args w=>enters sys hf args w⟩
end
end Ads
end Go.Proofs.Ytecdcefacdodgaa
