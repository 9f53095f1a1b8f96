/-
  Big steps are sound.
-/
import Derived.Test.YtnlcabhfkpafmaaGreatAdsDrawY
import Derived.Test.YtnlcabhfkpafmaaGreatAdsPan
import Derived.Test.YtnlcabhfkpafmaaGreatAdsDefer
import Derived.Test.YtnlcabhfkpafmaaGreatAdsAny
set_option linter.unusedSimpArgs false
set_option linter.unusedVariables false
namespace Go.Proofs.YtnlcabhfkpafmaaGreat
namespace Ads
section
variable {P:Program} {fs:Nat→Option ak} {ms:Nat→String→Option Nat}
theorem enters(sys:om P fs ms){f:Nat}{af:ak}(hf:fs f=some af)(args:Array Value)(w:World):(callFunc f args).run P w=.ok (.enter f args) w:=by
 obtain⟨fn,hfn,CX⟩:=sys.CP f af hf;obtain⟨c,rs,hb,hr,hname,hok,rfl⟩:=ia CX;exact Ae hfn hb hname args
theorem BS.sound(sys:om P fs ms)(H0:Nat){t:Task}{r:SD}(h:BS fs ms t r):Sound P H0 t r:=by
 induction h with
 |skip=>exact⟨Kj,fun _ hc=>by simp at hc⟩
 |ops h1 ih=>exact⟨OM ih,fun _ hc=>by simp at hc⟩
 |cj h1 h2 ih=>exact⟨Ke sys.mixed ih h2,fun _ hc=>by simp at hc⟩
 |@Dz rd a b e h e1 h1 r ha hb tI oD=>
  cases r with
  |code x e2 h2=>exact⟨Kh tI.1 oD.1,fun _ hc=>by simp at hc⟩
  |ops _ _ _=>trivial
  |val _ _=>trivial
  |mA _ _=>trivial
  |post _=>trivial
 |tT ha hx tI=>exact⟨Ki tI.1 hx,fun _ hc=>by simp at hc⟩
 |@cond rd c a b e h t r ht hb oD=>
  cases r with
  |code x e2 h2=>exact⟨Kb ht oD.1,fun _ hc=>by simp at hc⟩
  |ops _ _ _=>trivial
  |val _ _=>trivial
  |mA _ _=>trivial
  |post _=>trivial
 |tf ha tI=>exact⟨Dw tI.1,fun _ hc=>by simp at hc⟩
 |kr ha hx tI=>exact⟨Dv tI.1 hx,fun _ hc=>by simp at hc⟩
 |@uu rd c e h e1 h1 r ha hb tI oD=>
  cases r with
  |code x e2 h2=>
   have hl:=RG tI.1 (oD.2 c rfl);exact⟨B7 hl,fun c' hc=>by simp at hc;subst hc;exact hl⟩
  |ops _ _ _=>trivial
  |val _ _=>trivial
  |mA _ _=>trivial
  |post _=>trivial
 |iz ha hx tI=>
  have hl:=RH tI.1 hx;exact⟨B7 hl,fun c' hc=>by simp at hc;subst hc;exact hl⟩
 |exit=>exact⟨Kf,fun _ hc=>by simp at hc⟩
 |ret=>exact⟨ON,fun _ hc=>by simp at hc⟩
 |rangeFunc hg hc hl hst hx qH=>exact⟨Gx hg qH.1 qH.2 hl hst hx,fun _ hc=>by simp at hc⟩
 |nil=>exact⟨rfl,rfl⟩
 |off hw hl ihl=>exact⟨rfl,rfl,.inl ⟨rfl,hw,rfl,ihl⟩⟩
 |on hw ho hl Db ihl=>exact⟨rfl,rfl,.inr ⟨rfl,hw,_,Db,ihl⟩⟩
 |KQ h=>exact⟨h,rfl⟩
 |SS h=>exact⟨_,_,h,rfl,rfl⟩
 |Jm h=>exact⟨h,rfl⟩
 |RQ h=>exact NS h
 |WC h=>exact NT h
 |tM hc qH=>exact Gh qH
 |o6 hm hc qH=>exact BJ sys hm qH.1 qH.2
 |fD hc qH=>exact Cx qH.1 qH.2
 |yield h1 h2 h3 h4 h5 h6 h7 ih3 ih5=>exact Gy h1 h2 ih3.1 h4 ih5.1 h6 h7
 |forget hs ho hc qH=>exact⟨AP hs ho qH.1,qH.2⟩
 |Qt hs hc hn h1 ht qH=>exact⟨AQ hs qH.1 hn h1 ht,qH.2⟩
 |@fresh f args h v h1 hc ha hv qH=>
  refine⟨?_,qH.2⟩;intro ρ D w n hi hd;refine CallsIn.mono (qH.1 ρ (fun _=>False) w n ⟨fun b hb=>hb.elim,fun b _=>rfl,hi.low,fun b x hb _=>hb.elim,fun b b' hb _ _ _ _=>hb.elim⟩ ha) ?_;rintro e w' ⟨ρ',rfl,g1,g2,g3⟩;have hold:∀r,r<w.heap.size→w'.heap[r]?=w.heap[r]?:=fun r hr=>g2.frame r hr (fun b hb=>hb.elim);refine⟨ρ,by rw[cr (ρ:=ρ) (ρ':=ρ') (fun b hb=>hb.elim) v hv],?_,?_,cK (fun b hb=>hb.elim) v hv⟩
  ·rw[bn];refine⟨hi.lt,hi.top,Nat.le_trans hi.low g2.size,fun b x hb hx=>?_,hi.apart⟩;have:=hi.bJ b x hb hx;exact bP this (fun _=>id) (fun _ _=>rfl) (hold _ (gF this))
  ·exact⟨Nat.le_refl _,fun _ _=>rfl,g2.size,fun r hr _=>hold r hr,fun _ _ _=>rfl,fun b _ hb=>⟨hb,id⟩,fun b h1 h2=>by omega,g2.tape,g2.os,g2.output⟩
 |nW hg hc qH=>exact⟨Dx hg qH.1 qH.2,fun _ hc=>by simp at hc⟩
 |Au h1 h2 h3 hn h4 FP hA hl hw ho ih3 ihA ihl Db=>exact Dy h1 h2 ih3.1 hn h4 FP ihA.1 ihl hw Db
 |NV h1 hw ho ih1 Db=>exact⟨Kg ih1 hw Db,fun _ hc=>by simp at hc⟩
 |D3 h1 hr hl he hw ho ih1 Db=>exact⟨Gw sys.mixed ih1 hr hl he hw Db,fun _ hc=>by simp at hc⟩
 |ve=>exact⟨by simp,Dm⟩
 |vc hc qH=>exact⟨by simp,Dl qH⟩
 |p9 hm hc qH=>exact⟨by simp,zZ sys hm qH.1 qH.2⟩
 |zk hc qH=>exact AR qH.1 qH.2
 |DW hf hlen hb oD=>exact⟨Gv sys hf hlen oD.1,fun args w=>enters sys hf args w⟩
 |DV hf hlen Io hA FP Eg hr kN hx hg Bi hbody Bl GP kz j5 IM hy hres ihA ihl1 ihrest ihot Ns=>
  exact⟨Gu sys hf hlen Io ihA.1 FP ihl1 hr ihrest.1 hx hg Bi hbody Bl GP ihot j5 Ns.1 hy (fun args w=>enters sys hg args w) hres,fun args w=>enters sys hf args w⟩
 |@PY rd c e h x e' h' Q hb hq oD=>exact⟨Mz oD.1 hq,fun c' hc=>Hl (oD.2 c' hc) hq⟩
 |PZ ha hx hb tI oD=>exact⟨MA tI.1 hx (fun e1 h1 hr=>(oD e1 h1 hr).1),fun _ hc=>by simp at hc⟩
 |Mu ht hb oD=>exact⟨Ho ht oD.1,fun _ hc=>by simp at hc⟩
 |Hj hb hx oD=>exact⟨Fj oD.1 hx,fun _ hc=>by simp at hc⟩
 |@Mv rd c e h R Q ha hx hb tI oD=>
  have hl:=Fi tI.1 hx (fun e1 h1 hr=>(oD e1 h1 hr).2 c rfl);exact⟨Hq hl,fun c' hc=>by simp at hc;subst hc;exact hl⟩
 |Mw T E H hc hne hl hq ihl=>exact⟨AF hc ihl hq,fun _ hc=>by simp at hc⟩
 |MI hf hlen hb hQ oD=>exact⟨HB sys hf hlen oD.1 hQ,fun args w=>enters sys hf args w⟩
 |call hf hlen hb hx hr oD=>exact⟨Ka sys hf hlen oD.1 hx hr,fun args w=>enters sys hf args w⟩
end
end Ads
end Go.Proofs.YtnlcabhfkpafmaaGreat
