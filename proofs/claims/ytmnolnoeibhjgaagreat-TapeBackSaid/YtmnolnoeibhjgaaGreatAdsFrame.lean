/-
  A step of a part of a heap is a step of the whole.
-/
import Derived.Test.YtmnolnoeibhjgaaGreatAdsCode
set_option linter.unusedSimpArgs false
set_option linter.unusedVariables false
namespace Go.Proofs.YtmnolnoeibhjgaaGreat
namespace Ads
section
variable {P:Program} {H0 W0:Nat} {ρ ρ':cG} {D D':Dom} {h g g':Heap} {w w':World}
theorem kR(h g g':Heap):∀(n b:Nat),(sH h g g' n).get b=if b<n∧((g.get b).isSome=true∨h.next≤b) then g'.get b else h.get b
 |0,b=>by rw[if_neg (by omega)];rfl
 |n+1,b=>by
  unfold sH;by_cases hc:(g.get n).isSome=true∨h.next≤n
  ·rw[if_pos hc,Tr.ze _ _ _ _ _ (by omega)];by_cases hb:b=n
   ·subst hb;rw[if_pos rfl,if_pos ⟨by omega,hc⟩]
   ·rw[if_neg hb,kR h g g' n b];by_cases hl:b<n
    ·simp only[hl,show b<n+1 by omega,true_and]
    ·rw[if_neg (by omega),if_neg (by omega)]
  ·rw[if_neg hc,kR h g g' n b];by_cases hb:b=n
   ·subst hb;rw[if_neg (by omega),if_neg (fun e=>hc e.2)]
   ·by_cases hl:b<n
    ·simp only[hl,show b<n+1 by omega,true_and]
    ·rw[if_neg (by omega),if_neg (by omega)]
theorem kV.wr{b:Nat}(s:kV g h)(hw:g.wr b=true):h.wr b=true:=by
 cases hx:g.get b with
 |none=>exact absurd hx (Heap.eu hw)
 |some x=>unfold Heap.wr at hw⊢;rw[s.2 b x hx];rw[hx] at hw;exact hw
theorem kV.ne{b:Nat}(s:kV g h)(hn:g.get b≠none):h.get b≠none:=by
 cases hx:g.get b with
 |none=>exact absurd hx hn
 |some x=>rw[s.2 b x hx];simp
theorem Inv.sub(i:Inv P H0 ρ D h w)(s:kV g h):Inv P H0 ρ D g w where
 lt:=fun b hb=>by rw[s.1];exact i.lt b hb
 top:=fun b hb=>by
  cases hx:g.get b with
  |none=>rfl
  |some x=>have:=s.2 b x hx;rw[i.top b (by rw[←s.1];exact hb)] at this;simp at this
 low:=i.low
 bH:=fun b x hb hx=>i.bH b x hb (s.2 b x hx)
 apart:=fun b b' hb hb' hne hw hx=>i.apart b b' hb hb' hne (s.wr hw) (s.ne hx)
theorem yx(i:Inv P H0 ρ D h w)(s:kV g h)(i':Inv P H0 ρ' (grow D g.next g'.next) g' w')(x:Ext ρ D g w ρ' g' w'):
  Inv P H0 ρ' (grow D h.next (mX h g g').next) (mX h g g') w'∧Ext ρ D h w ρ' (mX h g g') w':=by
 rw[s.1] at i';have hU:h.next≤g'.next:=by rw[←s.1];exact x.next
 have cu:∀b,b<g'.next→(mX h g g').get b=if(g.get b).isSome=true∨h.next≤b then g'.get b else h.get b:=by
  intro b hb;show(sH h g g' g'.next).get b=_;rw[kR];simp only[hb,true_and]
 have gp:∀b,b<g'.next→(mX h g g').wr b=if(g.get b).isSome=true∨h.next≤b then g'.wr b else h.wr b:=by
  intro b hb;by_cases hc:(g.get b).isSome=true∨h.next≤b
  ·rw[if_pos hc];unfold Heap.wr;rw[cu b hb,if_pos hc]
  ·rw[if_neg hc];unfold Heap.wr;rw[cu b hb,if_neg hc]
 have qz:∀b,g'.next≤b→(mX h g g').get b=none:=by
  intro b hb;show(sH h g g' g'.next).get b=_;rw[kR,if_neg (by omega)];exact i.top b (by omega)
 have hlt:∀b,grow D h.next g'.next b→b<g'.next:=fun b hb=>i'.lt b hb;have Sj:∀b,(g.get b).isSome=true→g.get b≠none:=fun b hb e=>by rw[e] at hb;simp at hb
 have out:∀b,¬((g.get b).isSome=true∨h.next≤b)→g.get b=none∧b<h.next:=by
  intro b hb;refine⟨?_,by omega⟩;cases hx:g.get b with
  |none=>rfl
  |some y=>rw[hx] at hb;simp at hb
 have Bl:∀b,grow D h.next g'.next b→b<h.next→D b:=by
  rintro b (hb|hb) hl
  ·exact hb
  ·omega
 have ap:∀b b',grow D h.next g'.next b→((g.get b).isSome=true∨h.next≤b)→g'.get b≠none→D b'→g.get b'=none→h.get b'≠none→(g'.wr b=true∨h.wr b'=true)→(ρ' b).bH≠(ρ b').bH:=by
  intro b b' hb hin hne hb' hg' XM hw;have AR:b≠b':=by
   rintro rfl;rcases hin with hin|hin
   ·exact Sj b hin hg'
   ·have:=i.lt b hb';omega
  by_cases hl:b<h.next
  ·have hd:=Bl b hb hl;rw[x.bA b hd];have ho:=x.old b (by rw[s.1];exact hl) hne;rcases hw with hw|hw
   ·exact i.apart b b' hd hb' AR (s.wr (ho.2 hw)) XM
   ·exact(i.apart b' b hb' hd AR.symm hw (s.ne ho.1)).symm
  ·rcases x.fresh b (by rw[s.1];omega) (hlt b hb) with hf|⟨b0,k1,k2,k3⟩
   ·have:=i.J3 hb' XM;omega
   ·rw[←k3];refine i.apart b0 b' k1 hb' ?_ (s.wr k2) XM;rintro rfl;exact Heap.eu k2 hg'
 constructor
 ·refine⟨hlt,qz,i'.low,?_,?_⟩
  ·intro b y hb hy;rw[cu b (hlt b hb)] at hy;split at hy
   ·exact i'.bH b y hb hy
   ·rename_i hn;obtain⟨h1,h2⟩:=out b hn;have hd:=Bl b hb h2;have Cy:=i.bH b y hd hy;rw[x.bA b hd];refine bR Cy (fun _=>.inl) x.bA (x.frame _ (gy Cy) fun b0 k1 k2=>?_);refine i.apart b0 b k1 hd ?_ (s.wr k2) (by rw[hy];simp);rintro rfl;exact Heap.eu k2 h1
  ·intro b b' hb hb' hne hw hx;rw[gp b (hlt b hb)] at hw;rw[cu b' (hlt b' hb')] at hx;split at hw<;>rename_i c1<;>split at hx<;>rename_i c2
   ·exact i'.apart b b' hb hb' hne hw hx
   ·obtain⟨k1,k2⟩:=out b' c2;have hd:=Bl b' hb' k2;rw[x.bA b' hd];exact ap b b' hb c1 (Heap.eu hw) hd k1 hx (.inl hw)
   ·obtain⟨k1,k2⟩:=out b c1;have hd:=Bl b hb k2;rw[x.bA b hd];exact(ap b' b hb' c2 hx hd k1 (Heap.eu hw) (.inr hw)).symm
   ·obtain⟨k1,k2⟩:=out b c1;obtain⟨k3,k4⟩:=out b' c2;rw[x.bA b (Bl b hb k2),x.bA b' (Bl b' hb' k4)];exact i.apart b b' (Bl b hb k2) (Bl b' hb' k4) hne hw hx
 ·refine⟨hU,x.bA,x.size,fun r hr hf=>x.frame r hr fun b hb hw=>hf b hb (s.wr hw),?_,?_,?_,x.tape,x.os,x.output⟩
  ·intro b hb hd;rw[cu b (by omega)];split
   ·rename_i hc;rw[x.iz b (by rw[s.1];exact hb) hd];rcases hc with hc|hc
    ·cases hy:g.get b with
     |none=>rw[hy] at hc;simp at hc
     |some y=>rw[s.2 b y hy]
    ·omega
   ·rfl
  ·intro b hb hn;rw[cu b (by omega)] at hn;rw[gp b (by omega)];split at hn
   ·rename_i hc;have ho:=x.old b (by rw[s.1];exact hb) hn;refine⟨s.ne ho.1,fun hw=>?_⟩;rw[if_pos hc] at hw;exact s.wr (ho.2 hw)
   ·rename_i hc;rw[if_neg hc];exact⟨hn,id⟩
  ·intro b h1 h2;rcases x.fresh b (by rw[s.1];exact h1) h2 with hf|⟨b0,k1,k2,k3⟩
   ·exact .inl hf
   ·exact .inr ⟨b0,k1,s.wr k2,k3⟩
end
section
variable {P:Program} {H0:Nat} {h g g':Heap} {rd:Bool} {c:AC} {e e':Env} {x:AX}
theorem Cf{f:Nat}{args:List AV}{v:AV}(s:kV g h)(hc:fR P H0 f args g v g'):fR P H0 f args h v (mX h g g'):=by
 intro ρ D w n hi hd;refine CallsIn.mono (hc ρ D w n (hi.sub s) hd) ?_;rintro ex w' ⟨ρ',rfl,k1,k2,k3⟩;obtain⟨j1,j2⟩:=yx hi s k1 k2;rw[s.1] at k3;exact⟨ρ',rfl,j1,j2,k3⟩
theorem At{f:Nat}{args:List AV}{v:AV}{H h2:Heap}(s:kV h2 H)(ho:∀b,b<h.next→h.get b≠none→h2.get b=H.get b)(hc:fR P H0 f args h v H):fR P H0 f args h v h2:=by
 intro ρ D w n hi hd;refine CallsIn.mono (hc ρ D w n hi hd) ?_;rintro ex w' ⟨ρ',rfl,k1,k2,k3⟩;rw[←s.1] at k1 k3;refine⟨ρ',rfl,k1.sub s,⟨by rw[s.1];exact k2.next,k2.bA,k2.size,k2.frame,fun b hb hn=>?_,
  fun b hb hn=>⟨(k2.old b hb (s.ne hn)).1,fun hw=>(k2.old b hb (s.ne hn)).2 (s.wr hw)⟩,fun b h1 h2=>k2.fresh b h1 (by rw[←s.1];exact h2),k2.tape,k2.os,k2.output⟩,k3⟩
 have ha:=k2.iz b hb hn;cases hx:h.get b with
 |some x=>rw[ho b hb (by rw[hx];simp),ha,hx]
 |none=>
  cases hy:h2.get b with
  |none=>rfl
  |some y=>have:=s.2 b y hy;rw[ha,hx] at this;simp at this
theorem Inv.congr'{ρ:cG}{D:Dom}{h h2:Heap}{w:World}(i:Inv P H0 ρ D h w)(hn:h2.next=h.next)(hg:∀b,h2.get b=h.get b):Inv P H0 ρ D h2 w:=by
 have gp:∀b,h2.wr b=h.wr b:=fun b=>by simp only[Heap.wr,hg]
 refine⟨fun b hb=>by rw[hn];exact i.lt b hb,fun b hb=>by rw[hg];exact i.top b (by omega),i.low,fun b x hb hx=>i.bH b x hb (by rw[←hg];exact hx),fun b b' hb hb' hne hw hx=>?_⟩;rw[gp] at hw;rw[hg] at hx;exact i.apart b b' hb hb' hne hw hx
theorem Ext.congr'{ρ ρ':cG}{D:Dom}{h h2 h3:Heap}{w w':World}(x:Ext ρ D h w ρ' h2 w')(hn:h3.next=h2.next)(hg:∀b,h3.get b=h2.get b):Ext ρ D h w ρ' h3 w':=by
 have gp:∀b,h3.wr b=h2.wr b:=fun b=>by simp only[Heap.wr,hg]
 exact⟨by rw[hn];exact x.next,x.bA,x.size,x.frame,fun b h1 h2=>by rw[hg];exact x.iz b h1 h2,fun b h1 h2=>by rw[hg] at h2;rw[gp];exact x.old b h1 h2,
  fun b h1 h2=>x.fresh b h1 (by omega),x.tape,x.os,x.output⟩
theorem Au{f:Nat}{args:List AV}{v:AV}{u h2:Heap}(s:kV g h)(hc:fR P H0 f args g v u)(hn:h2.next=u.next)(h1:∀b,b<h.next→h2.get b=if(g.get b).isSome=true then u.get b else h.get b)
  (ht:∀b,h.next≤b→h.get b=none→h2.get b=if b<u.next then u.get b else none):fR P H0 f args h v h2:=by
 intro ρ D w n hi hd;refine CallsIn.mono (Cf s hc ρ D w n hi hd) ?_;rintro ex w' ⟨ρ',rfl,k1,k2,k3⟩;have hlt:h.next≤u.next:=k2.next;have hg:∀b,h2.get b=(mX h g u).get b:=by
  intro b;show _=(sH h g u u.next).get b;rw[kR];by_cases hb:b<h.next
  ·rw[h1 b hb];by_cases hc:(g.get b).isSome=true
   ·rw[if_pos hc,if_pos ⟨by omega,.inl hc⟩]
   ·rw[if_neg hc,if_neg (fun e=>by rcases e.2 with e|e<;>first|exact hc e|omega)]
  ·have hnone:=hi.top b (by omega);rw[ht b (by omega) hnone];by_cases gn:b<u.next
   ·rw[if_pos gn,if_pos ⟨gn,.inr (by omega)⟩]
   ·rw[if_neg gn,if_neg (fun e=>gn e.1),hnone]
 refine⟨ρ',rfl,?_,k2.congr' hn hg,?_⟩
 ·rw[hn];exact k1.congr' hn hg
 ·rw[hn];exact k3
theorem vZ{ds tl:List Deferred}{W0 N:Nat}{ρ:cG}{D:Dom}{w w':World}{a':Act}{ex:Exit}(s:kV g h)(hi:Inv P H0 ρ D h w)(hm:jc tl W0 ρ D h w ds)
  (hp:lX P H0 true ds tl W0 ρ D g w N x e' g' ex a' w'):lX P H0 true ds tl W0 ρ D h w N x e' (mX h g g') ex a' w':=by
 obtain⟨ρ',hx,g1,g2,g3,g4,g5⟩:=hp;obtain⟨j1,j2⟩:=yx hi s g1 g2;rw[s.1] at hx g3;have hds:=g5 rfl;refine⟨ρ',hx,j1,j2,g3,?_,fun _=>hds⟩;rw[hds];exact hm.ext hi.lt j2
theorem jc.sub{tl ds:List Deferred}{W0:Nat}{ρ:cG}{D:Dom}{w:World}(hm:jc tl W0 ρ D h w ds)(s:kV g h):jc tl W0 ρ D g w ds:=by
 obtain⟨rs,h1,h2,h3⟩:=hm;exact⟨rs,h1,h2,fun r hr=>⟨(h3 r hr).1,(h3 r hr).2.1,fun b hb hn=>(h3 r hr).2.2 b hb (s.ne hn)⟩⟩
theorem NC(hn:aU c=true)(s:kV g h)(hc:bD P H0 rd c e g x e' g'):bD P H0 rd c e h x e' (mX h g g'):=by
 intro code eE N hN ro hro ρ D w a W0 n tl hi he hm hW;have:=hc code eE N hN ro hro ρ D w a W0 n tl (hi.sub s) he (hm.sub s) hW;rw[hn] at this⊢;exact Code.wpIn_mono (fun ex a' w' hp=>vZ s hi hm hp) this
theorem O5(hn:aU c=true)(s:kV g h)(hc:lW P H0 rd c e g x e' g'):lW P H0 rd c e h x e' (mX h g g'):=by
 intro code eE N hN ro hro ρ D w a W0 n tl hi he hm hW;have:=hc code eE N hN ro hro ρ D w a W0 n tl (hi.sub s) he (hm.sub s) hW;rw[hn] at this⊢;intro b k cs vJ hb hr;obtain⟨e2,a2,w2,hp,gk⟩:=this b k cs vJ hb hr;exact⟨e2,a2,w2,vZ s hi hm hp,gk⟩
end
end Ads
end Go.Proofs.YtmnolnoeibhjgaaGreat
