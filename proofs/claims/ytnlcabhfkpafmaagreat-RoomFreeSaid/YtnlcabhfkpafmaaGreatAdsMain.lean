/-
  Big steps are sound.
-/
import Derived.Test.YtnlcabhfkpafmaaGreatAdsDrawY
import Derived.Test.YtnlcabhfkpafmaaGreatAdsPan
import Derived.Test.YtnlcabhfkpafmaaGreatAdsDefer
import Derived.Test.YtnlcabhfkpafmaaGreatAdsAny
set_option linter.unusedSimpArgs false
set_option linter.unusedVariables false
namespace Go.Proofs.YtnlcabhfkpafmaaGreat
namespace Ads
section
variable {P:Program} {fs:Nat→Option aq} {ms:Nat→String→Option Nat}
theorem enters(sys:lS P fs ms){f:Nat}{af:aq}(hf:fs f=some af)(args:Array Value)(w:World):(callFunc f args).run P w=.ok (.enter f args) w:=by
 obtain⟨fn,hfn,Dh⟩:=sys.z3 f af hf;obtain⟨c,rs,hb,hr,hname,hok,rfl⟩:=ij Dh;exact Aw hfn hb hname args
theorem BS.sound(sys:lS P fs ms)(H0:Nat){t:Task}{r:jj}(h:BS fs ms t r):Sound P H0 t r:=by
 induction h with
 |skip=>exact⟨KW,fun _ hc=>by simp at hc⟩
 |ops h1 ih=>exact⟨ON ih,fun _ hc=>by simp at hc⟩
 |cB h1 h2 ih=>exact⟨KR sys.mixed ih h2,fun _ hc=>by simp at hc⟩
 |@xZ rd a b e h e1 h1 r ha hb rR nO=>
  cases r with
  |code x e2 h2=>exact⟨KU rR.1 nO.1,fun _ hc=>by simp at hc⟩
  |ops _ _ _=>trivial
  |val _ _=>trivial
  |jT _ _=>trivial
  |post _=>trivial
 |oS ha hx rR=>exact⟨KV rR.1 hx,fun _ hc=>by simp at hc⟩
 |@cond rd c a b e h t r ht hb nO=>
  cases r with
  |code x e2 h2=>exact⟨KQ ht nO.1,fun _ hc=>by simp at hc⟩
  |ops _ _ _=>trivial
  |val _ _=>trivial
  |jT _ _=>trivial
  |post _=>trivial
 |nT ha rR=>exact⟨DU rR.1,fun _ hc=>by simp at hc⟩
 |fJ ha hx rR=>exact⟨DT rR.1 hx,fun _ hc=>by simp at hc⟩
 |@mg rd c e h e1 h1 r ha hb rR nO=>
  cases r with
  |code x e2 h2=>
   have hl:=Sa rR.1 (nO.2 c rfl);exact⟨Cm hl,fun c' hc=>by simp at hc;subst hc;exact hl⟩
  |ops _ _ _=>trivial
  |val _ _=>trivial
  |jT _ _=>trivial
  |post _=>trivial
 |cU ha hx rR=>
  have hl:=Sb rR.1 hx;exact⟨Cm hl,fun c' hc=>by simp at hc;subst hc;exact hl⟩
 |exit=>exact⟨KS,fun _ hc=>by simp at hc⟩
 |ret=>exact⟨OO,fun _ hc=>by simp at hc⟩
 |rangeFunc hg hc hl hst hx mF=>exact⟨Hl hg mF.1 mF.2 hl hst hx,fun _ hc=>by simp at hc⟩
 |nil=>exact⟨rfl,rfl⟩
 |off hw hl ihl=>exact⟨rfl,rfl,.inl ⟨rfl,hw,rfl,ihl⟩⟩
 |on hw ho hl uH ihl=>exact⟨rfl,rfl,.inr ⟨rfl,hw,_,uH,ihl⟩⟩
 |CE h=>exact⟨h,rfl⟩
 |Oh h=>exact⟨_,_,h,rfl,rfl⟩
 |tD h=>exact⟨h,rfl⟩
 |Lz h=>exact Oi h
 |VF h=>exact Oj h
 |mj hc mF=>exact GZ mF
 |kF hm hc mF=>exact B6 sys hm mF.1 mF.2
 |cO hc mF=>exact CP mF.1 mF.2
 |yield h1 h2 h3 h4 h5 h6 h7 ih3 ih5=>exact Ho h1 h2 ih3.1 h4 ih5.1 h6 h7
 |forget hs ho hc mF=>exact⟨A6 hs ho mF.1,mF.2⟩
 |Db hs hc hn h1 ht mF=>exact⟨A7 hs mF.1 hn h1 ht,mF.2⟩
 |@fresh f args h v h1 hc ha hv mF=>
  refine⟨?_,mF.2⟩;intro ρ D w n hi hd;refine CallsIn.mono (mF.1 ρ (fun _=>False) w n ⟨fun b hb=>hb.elim,fun b _=>rfl,hi.low,fun b x hb _=>hb.elim,fun b b' hb _ _ _ _=>hb.elim⟩ ha) ?_;rintro e w' ⟨ρ',rfl,g1,g2,g3⟩;have hold:∀r,r<w.heap.size→w'.heap[r]?=w.heap[r]?:=fun r hr=>g2.frame r hr (fun b hb=>hb.elim);refine⟨ρ,by rw[cq (ρ:=ρ) (ρ':=ρ') (fun b hb=>hb.elim) v hv],?_,?_,cQ (fun b hb=>hb.elim) v hv⟩
  ·rw[bn];refine⟨hi.lt,hi.top,Nat.le_trans hi.low g2.size,fun b x hb hx=>?_,hi.apart⟩;have:=hi.bJ b x hb hx;exact bO this (fun _=>id) (fun _ _=>rfl) (hold _ (gP this))
  ·exact⟨Nat.le_refl _,fun _ _=>rfl,g2.size,fun r hr _=>hold r hr,fun _ _ _=>rfl,fun b _ hb=>⟨hb,id⟩,fun b h1 h2=>by omega,g2.tape,g2.os,g2.output⟩
 |j6 hg hc mF=>exact⟨DV hg mF.1 mF.2,fun _ hc=>by simp at hc⟩
 |qf h1 h2 h3 hn h4 EN hA hl hw ho ih3 JV ihl uH=>exact DW h1 h2 ih3.1 hn h4 EN JV.1 ihl hw uH
 |G1 h1 hw ho ih1 uH=>exact⟨KT ih1 hw uH,fun _ hc=>by simp at hc⟩
 |yz h1 hr hl he hw ho ih1 uH=>exact⟨Hj sys.mixed ih1 hr hl he hw uH,fun _ hc=>by simp at hc⟩
 |qC=>exact⟨by simp,DH⟩
 |om hc mF=>exact⟨by simp,DG mF⟩
 |lI hm hc mF=>exact⟨by simp,Al sys hm mF.1 mF.2⟩
 |oY hc mF=>exact A9 mF.1 mF.2
 |vF hf hlen hb nO=>exact⟨Hi sys hf hlen nO.1,fun args w=>enters sys hf args w⟩
 |ux hf hlen GB hA EN HG hr kW hx hg BA hbody BD HH kN kO JI hy hres JV ihl1 ihrest ihot NQ=>
  exact⟨Hh sys hf hlen GB JV.1 EN ihl1 hr ihrest.1 hx hg BA hbody BD HH ihot kO NQ.1 hy (fun args w=>enters sys hg args w) hres,fun args w=>enters sys hf args w⟩
 |@Ie rd c e h x e' h' Q hb hq nO=>exact⟨MS nO.1 hq,fun c' hc=>Ic (nO.2 c' hc) hq⟩
 |Ig ha hx hb rR nO=>exact⟨MT rR.1 hx (fun e1 h1 hr=>(nO e1 h1 hr).1),fun _ hc=>by simp at hc⟩
 |Eh ht hb nO=>exact⟨Ih ht nO.1,fun _ hc=>by simp at hc⟩
 |AS hb hx nO=>exact⟨FZ nO.1 hx,fun _ hc=>by simp at hc⟩
 |@Ei rd c e h R Q ha hx hb rR nO=>
  have hl:=FY rR.1 hx (fun e1 h1 hr=>(nO e1 h1 hr).2 c rfl);exact⟨Ii hl,fun c' hc=>by simp at hc;subst hc;exact hl⟩
 |Ej T E H hc hne hl hq ihl=>exact⟨AU hc ihl hq,fun _ hc=>by simp at hc⟩
 |zE hf hlen hb hQ nO=>exact⟨Is sys hf hlen nO.1 hQ,fun args w=>enters sys hf args w⟩
 |call hf hlen hb hx hr nO=>exact⟨KP sys hf hlen nO.1 hx hr,fun args w=>enters sys hf args w⟩
end
end Ads
end Go.Proofs.YtnlcabhfkpafmaaGreat
