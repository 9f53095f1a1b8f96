/-
  Big steps are sound.
-/
import Derived.Test.YtepdklcpagielaaAdsDrawY
import Derived.Test.YtepdklcpagielaaAdsPan
import Derived.Test.YtepdklcpagielaaAdsDefer
import Derived.Test.YtepdklcpagielaaAdsAny
set_option linter.unusedSimpArgs false
set_option linter.unusedVariables false
namespace Go.Proofs.Ytepdklcpagielaa
namespace Ads
section
variable {P:Program} {fs:Nat→Option aB} {ms:Nat→String→Option Nat}
theorem enters(sys:lW P fs ms){f:Nat}{af:aB}(hf:fs f=some af)(args:Array Value)(w:World):(callFunc f args).run P w=.ok (.enter f args) w:=by
 obtain⟨fn,hfn,FT⟩:=sys.yN f af hf;obtain⟨c,rs,hb,hr,hname,hok,rfl⟩:=ja FT;exact CS hfn hb hname args
theorem BS.sound(sys:lW P fs ms)(H0:Nat){t:Task}{r:j8}(h:BS fs ms t r):Sound P H0 t r:=by
 induction h with
 |skip=>exact⟨MQ,fun _ hc=>by simp at hc⟩
 |ops h1 ih=>exact⟨Qj ih,fun _ hc=>by simp at hc⟩
 |bH h1 h2 ih=>exact⟨ML sys.mixed ih h2,fun _ hc=>by simp at hc⟩
 |@AL rd a b e h e1 h1 r ha hb ux pS=>
  cases r with
  |code x e2 h2=>exact⟨MO ux.1 pS.1,fun _ hc=>by simp at hc⟩
  |ops _ _ _=>trivial
  |val _ _=>trivial
  |kP _ _=>trivial
  |post _=>trivial
 |qS ha hx ux=>exact⟨MP ux.1 hx,fun _ hc=>by simp at hc⟩
 |@cond rd c a b e h t r ht hb pS=>
  cases r with
  |code x e2 h2=>exact⟨MK ht pS.1,fun _ hc=>by simp at hc⟩
  |ops _ _ _=>trivial
  |val _ _=>trivial
  |kP _ _=>trivial
  |post _=>trivial
 |pX ha ux=>exact⟨GA ux.1,fun _ hc=>by simp at hc⟩
 |gE ha hx ux=>exact⟨Gz ux.1 hx,fun _ hc=>by simp at hc⟩
 |@nP rd c e h e1 h1 r ha hb ux pS=>
  cases r with
  |code x e2 h2=>
   have hl:=Tf ux.1 (pS.2 c rfl);exact⟨EM hl,fun c' hc=>by simp at hc;subst hc;exact hl⟩
  |ops _ _ _=>trivial
  |val _ _=>trivial
  |kP _ _=>trivial
  |post _=>trivial
 |dJ ha hx ux=>
  have hl:=Tg ux.1 hx;exact⟨EM hl,fun c' hc=>by simp at hc;subst hc;exact hl⟩
 |exit=>exact⟨MM,fun _ hc=>by simp at hc⟩
 |ret=>exact⟨Qk,fun _ hc=>by simp at hc⟩
 |rangeFunc hg hc hl hst hx od=>exact⟨JD hg od.1 od.2 hl hst hx,fun _ hc=>by simp at hc⟩
 |nil=>exact⟨rfl,rfl⟩
 |off hw hl ihl=>exact⟨rfl,rfl,.inl ⟨rfl,hw,rfl,ihl⟩⟩
 |on hw ho hl xw ihl=>exact⟨rfl,rfl,.inr ⟨rfl,hw,_,xw,ihl⟩⟩
 |Fg h=>exact⟨h,rfl⟩
 |PU h=>exact⟨_,_,h,rfl,rfl⟩
 |HI h=>exact⟨h,rfl⟩
 |NB h=>exact PV h
 |UB h=>exact PW h
 |mF hc od=>exact Jh od
 |me hm hc od=>exact Es sys hm od.1 od.2
 |dw hc od=>exact Ft od.1 od.2
 |yield h1 h2 h3 h4 h5 h6 h7 ih3 ih5=>exact JE h1 h2 ih3.1 h4 ih5.1 h6 h7
 |forget hs ho hc od=>exact⟨Dz hs ho od.1,od.2⟩
 |FL hs hc hn h1 ht od=>exact⟨DA hs od.1 hn h1 ht,od.2⟩
 |@fresh f args h v h1 hc ha hv od=>
  refine⟨?_,od.2⟩;intro ρ D w n hi hd;refine CallsIn.mono (od.1 ρ (fun _=>False) w n ⟨fun b hb=>hb.elim,fun b _=>rfl,hi.low,fun b x hb _=>hb.elim,fun b b' hb _ _ _ _=>hb.elim⟩ ha) ?_;rintro e w' ⟨ρ',rfl,g1,g2,g3⟩;have hold:∀r,r<w.heap.size→w'.heap[r]?=w.heap[r]?:=fun r hr=>g2.frame r hr (fun b hb=>hb.elim);refine⟨ρ,by rw[cR (ρ:=ρ) (ρ':=ρ') (fun b hb=>hb.elim) v hv],?_,?_,dB (fun b hb=>hb.elim) v hv⟩
  ·rw[bF];refine⟨hi.lt,hi.top,Nat.le_trans hi.low g2.size,fun b x hb hx=>?_,hi.apart⟩;have:=hi.cj b x hb hx;exact cA this (fun _=>id) (fun _ _=>rfl) (hold _ (iM this))
  ·exact⟨Nat.le_refl _,fun _ _=>rfl,g2.size,fun r hr _=>hold r hr,fun _ _ _=>rfl,fun b _ hb=>⟨hb,id⟩,fun b h1 h2=>by omega,g2.tape,g2.os,g2.output⟩
 |lz hg hc od=>exact⟨GB hg od.1 od.2,fun _ hc=>by simp at hc⟩
 |sD h1 h2 h3 hn h4 Hy hA hl hw ho ih3 LP ihl xw=>exact GD h1 h2 ih3.1 hn h4 Hy LP.1 ihl hw xw
 |Et h1 hw ho ih1 xw=>exact⟨MN ih1 hw xw,fun _ hc=>by simp at hc⟩
 |xg h1 hr hl he hw ho ih1 xw=>exact⟨JC sys.mixed ih1 hr hl he hw xw,fun _ hc=>by simp at hc⟩
 |qm=>exact⟨by simp,Gm⟩
 |oD hc od=>exact⟨by simp,Gl od⟩
 |ni hm hc od=>exact⟨by simp,CK sys hm od.1 od.2⟩
 |pY hc od=>exact DC od.1 od.2
 |w6 hf hlen hb pS=>exact⟨JB sys hf hlen pS.1,fun args w=>enters sys hf args w⟩
 |uQ hf hlen wz hA Hy J0 hr mS hx hg D6 hbody D7 Hz mD m9 LC hy hres LP ihl1 ihrest ihot Pm=>
  exact⟨JA sys hf hlen wz LP.1 Hy ihl1 hr ihrest.1 hx hg D6 hbody D7 Hz ihot m9 Pm.1 hy (fun args w=>enters sys hg args w) hres,fun args w=>enters sys hf args w⟩
 |@Kk rd c e h x e' h' Q hb hq pS=>exact⟨Ox pS.1 hq,fun c' hc=>Kj (pS.2 c' hc) hq⟩
 |Kl ha hx hb ux pS=>exact⟨Oy ux.1 hx (fun e1 h1 hr=>(pS e1 h1 hr).1),fun _ hc=>by simp at hc⟩
 |G3 ht hb pS=>exact⟨Km ht pS.1,fun _ hc=>by simp at hc⟩
 |Dl hb hx pS=>exact⟨Im pS.1 hx,fun _ hc=>by simp at hc⟩
 |@G4 rd c e h R Q ha hx hb ux pS=>
  have hl:=Il ux.1 hx (fun e1 h1 hr=>(pS e1 h1 hr).2 c rfl);exact⟨Ko hl,fun c' hc=>by simp at hc;subst hc;exact hl⟩
 |G5 T E H hc hne hl hq ihl=>exact⟨Dn hc ihl hq,fun _ hc=>by simp at hc⟩
 |Cj hf hlen hb hQ pS=>exact⟨Ky sys hf hlen pS.1 hQ,fun args w=>enters sys hf args w⟩
 |call hf hlen hb hx hr pS=>exact⟨MJ sys hf hlen pS.1 hx hr,fun args w=>enters sys hf args w⟩
end
end Ads
end Go.Proofs.Ytepdklcpagielaa
