/-
  Code that may come to one thing or another (loops over maps).
-/
import Derived.Test.YtecdcefacdodgaaAdsFrame
import Derived.Test.YtecdcefacdodgaaAdsCall
set_option linter.unusedSimpArgs false
set_option linter.unusedVariables false
namespace Go.Proofs.Ytecdcefacdodgaa
namespace Ads
section
variable {P:Program} {H0 W0:Nat} {ρ ρ':cn} {D D':Dom} {h h' h1:Heap} {w w':World} {N n:Nat} {env e e':Env} {a:Act} {ro:Option Nat} {rd:Bool} {Q R:AX→Env→Heap→Prop}
theorem lq{c:AC}(Is:∀(code:Code),cS code=false→ay P code=c→∀(N:Nat),codeOk N c=true→∀(ro:Option Nat),ro.isSome=rd→∀(ρ:cn) (D:Dom) (w:World) (a:Act) (W0 n:Nat) (tl:List Deferred),
  Inv P H0 ρ D h w→bz ρ D N e a→iG tl W0 ρ D h w a.defers→W0≤w.heap.size→code.wpIn (FW ro) n P (AG P H0 Q (aR c) a.defers tl W0 ρ D h w N) a w):fG P H0 rd c e h Q:=by
 intro code;induction code with
 |scope c' ih=>
  intro hc N hN ro hro ρ D w a W0 n tl hi he hm hW;refine lY ?_ (ih (by simpa[ay] using hc) N hN ro hro ρ D w a W0 n tl hi he hm hW);intro l a w hh;obtain⟨x,e',h',_,ρ',hx,_⟩:=hh;cases x<;>simp[He] at hx
 |_=>intro hc N hN ro hro ρ D w a W0 n tl hi he hm hW;exact Is _ rfl hc N hN ro hro ρ D w a W0 n tl hi he hm hW
theorem Lu{c:AC}{x:AX}(hs:bu P H0 rd c e h x e' h')(hq:Q x e' h'):fG P H0 rd c e h Q:=
 fun code hc N hN ro hro ρ D w a W0 n tl hi he hm hW=>Code.wpIn_mono (fun ex a' w' hp=>⟨x,e',h',hq,hp⟩) (hs code hc N hN ro hro ρ D w a W0 n tl hi he hm hW)
theorem Hl{c:AC}{x:AX}(hs:l7 P H0 rd c e h x e' h')(hq:Q x e' h'):rN P H0 rd c e h Q:=by
 intro code hc N hN ro hro ρ D w a W0 n tl hi he hm hW b k cs vV hb hr;obtain⟨e2,a2,w2,hp,fN⟩:=hs code hc N hN ro hro ρ D w a W0 n tl hi he hm hW b k cs vV hb hr;exact⟨e2,a2,w2,⟨x,e',h',hq,hp⟩,fN⟩
theorem Lv{c d:AC}(tE:fG P H0 rd c e h R)(hx:∀x e1 h1,R x e1 h1→x.bx=false→Q x e1 h1)(Ow:∀e1 h1,R .normal e1 h1→fG P H0 rd d e1 h1 Q):fG P H0 rd (.seq c d) e h Q:=by
 refine lq fun code hs hc N hN ro hro ρ D w a W0 n tl hi he hm hW=>?_;obtain⟨y,z,rfl,hy,hz⟩:=eT hs hc;simp only[codeOk,Bool.and_eq_true] at hN;refine wpIn_seq ?_;refine Code.wpIn_mono ?_ (tE y hy N hN.1 ro hro ρ D w a W0 n tl hi he hm hW);rintro ex a' w' ⟨x,e1,h1,hr,hp⟩;cases hn:x.bx with
 |true=>
  have:x=.normal:=by cases x<;>simp[AX.bx] at hn;rfl
  subst this;obtain⟨ρ',hex,g1,g2,g3,g4,g5⟩:=hp;have hex:ex=.normal:=hex;subst hex;show z.wpIn (FW ro) n P _ a' w';refine Code.wpIn_mono ?_ (Ow e1 h1 hr z hz N hN.2 ro hro ρ' _ w' a' W0 n tl g1 g3 g4 (Nat.le_trans hW g2.size));rintro ex2 a2 w2 ⟨x2,e2,h2,hq,hp⟩;refine⟨x2,e2,h2,hq,nP hi g2 (fun hn=>?_) hp⟩;simp only[aR,Bool.and_eq_true] at hn;exact⟨hn.2,g5 hn.1⟩
 |false=>
  have Qv:AG P H0 Q (aR (.seq c d)) a.defers tl W0 ρ D h w N ex a' w':=⟨x,e1,h1,hx x e1 h1 hr hn,qi (fun hn=>by simp only[aR,Bool.and_eq_true] at hn;exact hn.1) hp⟩;have:=(va hn hp).1;cases ex with
  |normal=>exact absurd rfl this
  |_=>exact Qv
theorem Hr{r:bA}{c d:AC}{t:Bool}(ht:e.ev r=.bool t)(tE:fG P H0 rd (bif t then c else d) e h Q):fG P H0 rd (.cond r c d) e h Q:=by
 refine lq fun code hs hc N hN ro hro ρ D w a W0 n tl hi he hm hW=>?_;obtain⟨q,y,z,rfl,hq,hy,hz⟩:=qG hs hc;simp only[codeOk,Bool.and_eq_true] at hN;have hr:=(aD he hq).1;rw[ht] at hr;refine wpIn_cond (t:=t) (by simpa[real] using hr) ?_;cases t with
 |true=>
  refine Code.wpIn_mono ?_ (tE y hy N hN.1 ro hro ρ D w a W0 n tl hi he hm hW);rintro ex a' w' ⟨x,e1,h1,hq,hp⟩;exact⟨x,e1,h1,hq,qi (fun hn=>by simp only[aR,Bool.and_eq_true] at hn;exact hn.1) hp⟩
 |false=>
  refine Code.wpIn_mono ?_ (tE z hz N hN.2 ro hro ρ D w a W0 n tl hi he hm hW);rintro ex a' w' ⟨x,e1,h1,hq,hp⟩;exact⟨x,e1,h1,hq,qi (fun hn=>by simp only[aR,Bool.and_eq_true] at hn;exact hn.2) hp⟩
theorem FD{id:Nat}{c:AC}(tE:fG P H0 rd c e h R)(hx:∀x e1 h1,R x e1 h1→Q (Ek id x) e1 h1):fG P H0 rd (.block id c) e h Q:=by
 refine lq fun code hs hc N hN ro hro ρ D w a W0 n tl hi he hm hW=>?_;obtain⟨y,rfl,hy⟩:=iK hs hc;refine wpIn_block ?_;refine Code.wpIn_mono ?_ (tE y hy N hN ro hro ρ D w a W0 n tl hi he hm hW);rintro ex a' w' ⟨x,e1,h1,hr,ρ',hex,rest⟩;have hq:=hx x e1 h1 hr;cases x with
 |exit i=>
  have hex:ex=.exit i:=hex;subst hex;simp only[Ek] at hq;by_cases hi':i=id
  ·rw[if_pos hi'] at hq;simp only[Exit.inBlock,if_pos hi'];exact⟨.normal,e1,h1,hq,ρ',rfl,rest⟩
  ·rw[if_neg hi'] at hq;simp only[Exit.inBlock,if_neg hi'];exact⟨.exit i,e1,h1,hq,ρ',rfl,rest⟩
 |normal=>have hex:ex=.normal:=hex;subst hex;exact⟨.normal,e1,h1,hq,ρ',rfl,rest⟩
 |ret=>have hex:ex=.ret:=hex;subst hex;exact⟨.ret,e1,h1,hq,ρ',rfl,rest⟩
 |panic v=>obtain⟨hex,hd⟩:=hex;subst hex;exact⟨.panic v,e1,h1,hq,ρ',⟨rfl,hd⟩,rest⟩
theorem FC{c:AC}(tE:fG P H0 rd c e h R)(hx:∀x e1 h1,R x e1 h1→x.bx=false→Q x e1 h1)(Ow:∀e1 h1,R .normal e1 h1→rN P H0 rd c e1 h1 Q):rN P H0 rd c e h Q:=by
 intro code hc N hN ro hro ρ D w a W0 n tl hi he hm hW;refine mP ?_;refine Code.wpIn_mono ?_ (tE code hc N hN ro hro ρ D w a W0 n tl hi he hm hW);rintro ex a' w' ⟨x,e1,h1,hr,hp⟩;cases hn:x.bx with
 |true=>
  have:x=.normal:=by cases x<;>simp[AX.bx] at hn;rfl
  subst this;obtain⟨ρ',hex,g1,g2,g3,g4,g5⟩:=hp;have hex:ex=.normal:=hex;subst hex;show rK (FW ro) n P code _ a' w';have:=Ow e1 h1 hr code hc N hN ro hro ρ' _ w' a' W0 n tl g1 g3 g4 (Nat.le_trans hW g2.size);intro b k cs vV hb hr;obtain⟨e2,a2,w2,⟨x3,e3,h3,hq,hp⟩,fN⟩:=this b k cs vV hb hr;exact⟨e2,a2,w2,⟨x3,e3,h3,hq,nP hi g2 (fun hn=>⟨hn,g5 hn⟩) hp⟩,fN⟩
 |false=>
  have:=(va hn hp).1;cases ex with
  |normal=>exact absurd rfl this
  |_=>exact⟨x,e1,h1,hx x e1 h1 hr hn,hp⟩
theorem Hs{c:AC}(tE:rN P H0 rd c e h Q):fG P H0 rd (.loop c) e h Q:=by
 refine lq fun code hs hc N hN ro hro ρ D w a W0 n tl hi he hm hW=>?_;obtain⟨y,rfl,hy⟩:=qI hs hc;exact pM (tE y hy N hN ro hro ρ D w a W0 n tl hi he hm hW)
theorem AO{dst:Option Nat}{args:List bA}{l:List bh}{cs:List (AV×Heap)}{T:AV×Heap→List aG}{E:AV×Heap→Env}{H:AV×Heap→Heap}(hc:qM (args.map e.ev) h=some cs)
  (hl:∀p∈cs,OT P H0 l (e.put dst p.1) p.2 (T p) (E p) (H p))(hq:∀p∈cs,Q .normal (E p) (H p)):fG P H0 rd (.ops (⟨dst,none,.e .next,args⟩::l)) e h Q:=by
 refine lq fun code hs fm N hN ro hro ρ D w a W0 n tl hi he hm hW=>?_;obtain⟨id,os,rfl,hos⟩:=dD hs fm;refine wpIn_region_list ?_;have hN:cP N (⟨dst,none,.e .next,args⟩::l)=true:=hN;generalize II:os.toList=ol at hos⊢;cases ol with
 |nil=>simp at hos
 |cons o ol=>
  simp only[List.map_cons,List.cons.injEq] at hos;simp only[cP,Bool.and_eq_true] at hN;have hnb:(⟨dst,none,.e .next,args⟩:bh).op≠.bad:=by simp
  have lC:dst=o.dst:=(cw hos.1).1;have gT:=dL hos.1 (.inl hnb) he;have Ns:=((cw hos.1).2 (.inl hnb)).1;unfold wpListIn;rw[if_pos (by rw[gT];rfl)];refine fM Ns ?_;obtain⟨p,hp,⟨ρ',w',hrun,g1,g2,g3⟩,hpn⟩:=B0 he hi Ns hc;have z5:wpListIn (FW ro) n P os (AG P H0 Q (aR (.ops (⟨dst,none,.e .next,args⟩::l))) a.defers tl W0 ρ D h w N) ol (a.put o.dst (real ρ' p.1)) w':=by
   rw[←lC];have he':bz ρ' (grow D h.next p.2.next) N (e.put dst p.1) (a.put dst (real ρ' p.1)):=(he.mono g2.bp (fun _=>.inl)).put hN.1 g3;refine nO (hl p hp) hos.2 hN.2 g1 he' ?_;intro CB w'' QM k1 k2 k3 k4;have GX:=g2.next;have hn2:=k2.next;rw[dh D GX hn2] at k1 k3;have hd:QM.defers=a.defers:=k4.trans (by cases dst<;>rfl);have hx:=Ext.trans hi.lt g2 k2;exact⟨.normal,E p,H p,hq p hp,CB,rfl,k1,hx,k3,by rw[hd];exact hm.ext hi.lt hx,fun _=>hd⟩
  rcases hrun with hrun|⟨hrun,hu⟩
  ·rw[hrun];exact z5
  ·rw[hrun];rw[hu,eY] at z5;exact z5
theorem HA{fs:Nat→Option az}{ms:Nat→String→Option Nat}(sys:kZ P fs ms){f:Nat}{args:List AV}{af:az}{v:AV}{h2:Heap}(hf:fs f=some af)(hlen:args.length≤af.ntmps)
  (hbody:fG P H0 false af.body (Env.start af.ntmps args) h Q)(hQ:∀x e h1,Q x e h1→(x=.normal∨x=.ret)∧(∃vs,fE e h1 af.results=some vs∧cI vs=v)∧mS h2 h1∧∀b,b<h.next→h.get b≠none→h2.get b=h1.get b):
  fF P H0 f args h v h2:=by
 obtain⟨fn,hfn,Ds⟩:=sys.zW f af hf;obtain⟨c,rs,hb,hr,hname,hok,rfl⟩:=gA Ds;intro ρ D w n hi hd;refine callsIn_of_wp_marks hfn hb trivial ?_;have he:=mU (ρ:=ρ) hd hlen;have hm:iG [] w.heap.size ρ D h w ([]:List Deferred):=⟨[],rfl,List.nodup_nil,fun r hr=>by simp at hr⟩;refine Code.wpIn_mono ?_ (hbody c rfl fn.ntmps hok none rfl ρ D w _ w.heap.size n [] hi he hm (Nat.le_refl _));rintro ex a' w' ⟨x,e,h1,hq,ρ',hex,g1,g2,g3,g4,_⟩;obtain⟨hx,⟨vs,hres,rfl⟩,s,ho⟩:=hQ x e h1 hq;have kH:LeavesInM Fence.wide n P fn a'.tmps (fun e w'=>∃ρ',e=.returned (real ρ' (cI vs))∧Inv P H0 ρ' (grow D h.next h2.next) h2 w'∧Ext ρ D h w ρ' h2 w'∧(cI vs).aP (grow D h.next h2.next)) a'.defers .returning w':=by
  refine mj (by simp) g1 g2 g4 ?_;intro w'' k1 k2;have hrun:=kK (P:=P) (fn:=fn) g3 k1 hr hres;have k3:=hrun.2;rw[←s.1] at k1 k3;refine⟨_,hrun.1,ρ',rfl,k1.sub s,⟨by rw[s.1];exact k2.next,k2.bp,k2.size,k2.frame,fun b hb hn=>?_,
   fun b hb hn=>⟨(k2.old b hb (s.ne hn)).1,fun hw=>(k2.old b hb (s.ne hn)).2 (s.wr hw)⟩,fun b h1 h2=>k2.fresh b h1 (by rw[←s.1];exact h2),k2.tape,k2.os,k2.output⟩,k3⟩
  have ha:=k2.gJ b hb hn;cases hx:h.get b with
  |some x=>rw[ho b hb (by rw[hx];simp),ha,hx]
  |none=>
   cases hy:h2.get b with
   |none=>rfl
   |some y=>have:=s.2 b y hy;rw[ha,hx] at this;simp at this
 rcases hx with rfl|rfl
 ·have hex:ex=.normal:=hex;subst hex;exact kH
 ·have hex:ex=.ret:=hex;subst hex;exact kH
end
end Ads
end Go.Proofs.Ytecdcefacdodgaa
