/-
  Code that may come to one thing or another (loops over maps).
-/
import Derived.Test.YtmnolnoeibhjgaaGreatAdsFrame
import Derived.Test.YtmnolnoeibhjgaaGreatAdsCall
set_option linter.unusedSimpArgs false
set_option linter.unusedVariables false
namespace Go.Proofs.YtmnolnoeibhjgaaGreat
namespace Ads
section
variable {P:Program} {H0 W0:Nat} {ρ ρ':cG} {D D':Dom} {h h' h1:Heap} {w w':World} {N n:Nat} {env e e':Env} {a:Act} {ro:Option Nat} {rd:Bool} {Q R:AX→Env→Heap→Prop}
theorem lf{c:AC}(GV:∀(code:Code),c8 code=false→aE P code=c→∀(N:Nat),codeOk N c=true→∀(ro:Option Nat),ro.isSome=rd→∀(ρ:cG) (D:Dom) (w:World) (a:Act) (W0 n:Nat) (tl:List Deferred),
  Inv P H0 ρ D h w→bG ρ D N e a→jc tl W0 ρ D h w a.defers→W0≤w.heap.size→code.wpIn (FW ro) n P (Af P H0 Q (aU c) a.defers tl W0 ρ D h w N) a w):fT P H0 rd c e h Q:=by
 intro code;induction code with
 |scope c' ih=>
  intro hc N hN ro hro ρ D w a W0 n tl hi he hm hW;refine lO ?_ (ih (by simpa[aE] using hc) N hN ro hro ρ D w a W0 n tl hi he hm hW);intro l a w hh;obtain⟨x,e',h',_,ρ',hx,_⟩:=hh;cases x<;>simp[FP] at hx
 |_=>intro hc N hN ro hro ρ D w a W0 n tl hi he hm hW;exact GV _ rfl hc N hN ro hro ρ D w a W0 n tl hi he hm hW
theorem Jd{c:AC}{x:AX}(hs:bD P H0 rd c e h x e' h')(hq:Q x e' h'):fT P H0 rd c e h Q:=
 fun code hc N hN ro hro ρ D w a W0 n tl hi he hm hW=>Code.wpIn_mono (fun ex a' w' hp=>⟨x,e',h',hq,hp⟩) (hs code hc N hN ro hro ρ D w a W0 n tl hi he hm hW)
theorem FT{c:AC}{x:AX}(hs:lW P H0 rd c e h x e' h')(hq:Q x e' h'):rR P H0 rd c e h Q:=by
 intro code hc N hN ro hro ρ D w a W0 n tl hi he hm hW b k cs vJ hb hr;obtain⟨e2,a2,w2,hp,gk⟩:=hs code hc N hN ro hro ρ D w a W0 n tl hi he hm hW b k cs vJ hb hr;exact⟨e2,a2,w2,⟨x,e',h',hq,hp⟩,gk⟩
theorem Je{c d:AC}(tn:fT P H0 rd c e h R)(hx:∀x e1 h1,R x e1 h1→x.bB=false→Q x e1 h1)(N5:∀e1 h1,R .normal e1 h1→fT P H0 rd d e1 h1 Q):fT P H0 rd (.seq c d) e h Q:=by
 refine lf fun code hs hc N hN ro hro ρ D w a W0 n tl hi he hm hW=>?_;obtain⟨y,z,rfl,hy,hz⟩:=fo hs hc;simp only[codeOk,Bool.and_eq_true] at hN;refine wpIn_seq ?_;refine Code.wpIn_mono ?_ (tn y hy N hN.1 ro hro ρ D w a W0 n tl hi he hm hW);rintro ex a' w' ⟨x,e1,h1,hr,hp⟩;cases hn:x.bB with
 |true=>
  have:x=.normal:=by cases x<;>simp[AX.bB] at hn;rfl
  subst this;obtain⟨ρ',hex,g1,g2,g3,g4,g5⟩:=hp;have hex:ex=.normal:=hex;subst hex;show z.wpIn (FW ro) n P _ a' w';refine Code.wpIn_mono ?_ (N5 e1 h1 hr z hz N hN.2 ro hro ρ' _ w' a' W0 n tl g1 g3 g4 (Nat.le_trans hW g2.size));rintro ex2 a2 w2 ⟨x2,e2,h2,hq,hp⟩;refine⟨x2,e2,h2,hq,nQ hi g2 (fun hn=>?_) hp⟩;simp only[aU,Bool.and_eq_true] at hn;exact⟨hn.2,g5 hn.1⟩
 |false=>
  have B3:Af P H0 Q (aU (.seq c d)) a.defers tl W0 ρ D h w N ex a' w':=⟨x,e1,h1,hx x e1 h1 hr hn,qi (fun hn=>by simp only[aU,Bool.and_eq_true] at hn;exact hn.1) hp⟩;have:=(uM hn hp).1;cases ex with
  |normal=>exact absurd rfl this
  |_=>exact B3
theorem FU{r:bx}{c d:AC}{t:Bool}(ht:e.ev r=.bool t)(tn:fT P H0 rd (bif t then c else d) e h Q):fT P H0 rd (.cond r c d) e h Q:=by
 refine lf fun code hs hc N hN ro hro ρ D w a W0 n tl hi he hm hW=>?_;obtain⟨q,y,z,rfl,hq,hy,hz⟩:=qE hs hc;simp only[codeOk,Bool.and_eq_true] at hN;have hr:=(aG he hq).1;rw[ht] at hr;refine wpIn_cond (t:=t) (by simpa[real] using hr) ?_;cases t with
 |true=>
  refine Code.wpIn_mono ?_ (tn y hy N hN.1 ro hro ρ D w a W0 n tl hi he hm hW);rintro ex a' w' ⟨x,e1,h1,hq,hp⟩;exact⟨x,e1,h1,hq,qi (fun hn=>by simp only[aU,Bool.and_eq_true] at hn;exact hn.1) hp⟩
 |false=>
  refine Code.wpIn_mono ?_ (tn z hz N hN.2 ro hro ρ D w a W0 n tl hi he hm hW);rintro ex a' w' ⟨x,e1,h1,hq,hp⟩;exact⟨x,e1,h1,hq,qi (fun hn=>by simp only[aU,Bool.and_eq_true] at hn;exact hn.2) hp⟩
theorem Ew{id:Nat}{c:AC}(tn:fT P H0 rd c e h R)(hx:∀x e1 h1,R x e1 h1→Q (Dg id x) e1 h1):fT P H0 rd (.block id c) e h Q:=by
 refine lf fun code hs hc N hN ro hro ρ D w a W0 n tl hi he hm hW=>?_;obtain⟨y,rfl,hy⟩:=jd hs hc;refine wpIn_block ?_;refine Code.wpIn_mono ?_ (tn y hy N hN ro hro ρ D w a W0 n tl hi he hm hW);rintro ex a' w' ⟨x,e1,h1,hr,ρ',hex,rest⟩;have hq:=hx x e1 h1 hr;cases x with
 |exit i=>
  have hex:ex=.exit i:=hex;subst hex;simp only[Dg] at hq;by_cases hi':i=id
  ·rw[if_pos hi'] at hq;simp only[Exit.inBlock,if_pos hi'];exact⟨.normal,e1,h1,hq,ρ',rfl,rest⟩
  ·rw[if_neg hi'] at hq;simp only[Exit.inBlock,if_neg hi'];exact⟨.exit i,e1,h1,hq,ρ',rfl,rest⟩
 |normal=>have hex:ex=.normal:=hex;subst hex;exact⟨.normal,e1,h1,hq,ρ',rfl,rest⟩
 |ret=>have hex:ex=.ret:=hex;subst hex;exact⟨.ret,e1,h1,hq,ρ',rfl,rest⟩
 |panic v=>obtain⟨hex,hd⟩:=hex;subst hex;exact⟨.panic v,e1,h1,hq,ρ',⟨rfl,hd⟩,rest⟩
theorem Ev{c:AC}(tn:fT P H0 rd c e h R)(hx:∀x e1 h1,R x e1 h1→x.bB=false→Q x e1 h1)(N5:∀e1 h1,R .normal e1 h1→rR P H0 rd c e1 h1 Q):rR P H0 rd c e h Q:=by
 intro code hc N hN ro hro ρ D w a W0 n tl hi he hm hW;refine mF ?_;refine Code.wpIn_mono ?_ (tn code hc N hN ro hro ρ D w a W0 n tl hi he hm hW);rintro ex a' w' ⟨x,e1,h1,hr,hp⟩;cases hn:x.bB with
 |true=>
  have:x=.normal:=by cases x<;>simp[AX.bB] at hn;rfl
  subst this;obtain⟨ρ',hex,g1,g2,g3,g4,g5⟩:=hp;have hex:ex=.normal:=hex;subst hex;show rJ (FW ro) n P code _ a' w';have:=N5 e1 h1 hr code hc N hN ro hro ρ' _ w' a' W0 n tl g1 g3 g4 (Nat.le_trans hW g2.size);intro b k cs vJ hb hr;obtain⟨e2,a2,w2,⟨x3,e3,h3,hq,hp⟩,gk⟩:=this b k cs vJ hb hr;exact⟨e2,a2,w2,⟨x3,e3,h3,hq,nQ hi g2 (fun hn=>⟨hn,g5 hn⟩) hp⟩,gk⟩
 |false=>
  have:=(uM hn hp).1;cases ex with
  |normal=>exact absurd rfl this
  |_=>exact⟨x,e1,h1,hx x e1 h1 hr hn,hp⟩
theorem FV{c:AC}(tn:rR P H0 rd c e h Q):fT P H0 rd (.loop c) e h Q:=by
 refine lf fun code hs hc N hN ro hro ρ D w a W0 n tl hi he hm hW=>?_;obtain⟨y,rfl,hy⟩:=qG hs hc;exact pM (tn y hy N hN ro hro ρ D w a W0 n tl hi he hm hW)
theorem FX{dst:Option Nat}{args:List bx}{l:List bp}{cs:List (AV×Heap)}{T:AV×Heap→List aK}{E:AV×Heap→Env}{H:AV×Heap→Heap}(hc:o5 (args.map e.ev) h=some cs)
  (hl:∀p∈cs,OT P H0 l (e.put dst p.1) p.2 (T p) (E p) (H p))(hq:∀p∈cs,Q .normal (E p) (H p)):fT P H0 rd (.ops (⟨dst,none,.e .next,args⟩::l)) e h Q:=by
 refine lf fun code hs eE N hN ro hro ρ D w a W0 n tl hi he hm hW=>?_;obtain⟨id,os,rfl,hos⟩:=dS hs eE;refine wpIn_region_list ?_;have hN:cY N (⟨dst,none,.e .next,args⟩::l)=true:=hN;generalize B2:os.toList=ol at hos⊢;cases ol with
 |nil=>simp at hos
 |cons o ol=>
  simp only[List.map_cons,List.cons.injEq] at hos;simp only[cY,Bool.and_eq_true] at hN;have hnb:(⟨dst,none,.e .next,args⟩:bp).op≠.bad:=by simp
  have lu:dst=o.dst:=(cN hos.1).1;have gp:=dV hos.1 (.inl hnb) he;have K9:=((cN hos.1).2 (.inl hnb)).1;unfold wpListIn;rw[if_pos (by rw[gp];rfl)];refine gj K9 ?_;obtain⟨p,hp,⟨ρ',w',hrun,g1,g2,g3⟩,hpn⟩:=Bh he hi K9 hc;have AZ:wpListIn (FW ro) n P os (Af P H0 Q (aU (.ops (⟨dst,none,.e .next,args⟩::l))) a.defers tl W0 ρ D h w N) ol (a.put o.dst (real ρ' p.1)) w':=by
   rw[←lu];have he':bG ρ' (grow D h.next p.2.next) N (e.put dst p.1) (a.put dst (real ρ' p.1)):=(he.mono g2.bA (fun _=>.inl)).put hN.1 g3;refine nP (hl p hp) hos.2 hN.2 g1 he' ?_;intro BQ w'' QL k1 k2 k3 k4;have Oy:=g2.next;have hn2:=k2.next;rw[dH D Oy hn2] at k1 k3;have hd:QL.defers=a.defers:=k4.trans (by cases dst<;>rfl);have hx:=Ext.trans hi.lt g2 k2;exact⟨.normal,E p,H p,hq p hp,BQ,rfl,k1,hx,k3,by rw[hd];exact hm.ext hi.lt hx,fun _=>hd⟩
  rcases hrun with hrun|⟨hrun,hu⟩
  ·rw[hrun];exact AZ
  ·rw[hrun];rw[hu,fA] at AZ;exact AZ
theorem F6{fs:Nat→Option aj}{ms:Nat→String→Option Nat}(sys:kW P fs ms){f:Nat}{args:List AV}{af:aj}{v:AV}{h2:Heap}(hf:fs f=some af)(hlen:args.length≤af.ntmps)
  (hbody:fT P H0 false af.body (Env.start af.ntmps args) h Q)(hQ:∀x e h1,Q x e h1→(x=.normal∨x=.ret)∧(∃vs,eA e h1 af.results=some vs∧cB vs=v)∧kV h2 h1∧∀b,b<h.next→h.get b≠none→h2.get b=h1.get b):
  fR P H0 f args h v h2:=by
 obtain⟨fn,hfn,Cz⟩:=sys.zc f af hf;obtain⟨c,rs,hb,hr,hname,hok,rfl⟩:=gU Cz;intro ρ D w n hi hd;refine callsIn_of_wp_marks hfn hb trivial ?_;have he:=mO (ρ:=ρ) hd hlen;have hm:jc [] w.heap.size ρ D h w ([]:List Deferred):=⟨[],rfl,List.nodup_nil,fun r hr=>by simp at hr⟩;refine Code.wpIn_mono ?_ (hbody c rfl fn.ntmps hok none rfl ρ D w _ w.heap.size n [] hi he hm (Nat.le_refl _));rintro ex a' w' ⟨x,e,h1,hq,ρ',hex,g1,g2,g3,g4,_⟩;obtain⟨hx,⟨vs,hres,rfl⟩,s,ho⟩:=hQ x e h1 hq;have jf:LeavesInM Fence.wide n P fn a'.tmps (fun e w'=>∃ρ',e=.returned (real ρ' (cB vs))∧Inv P H0 ρ' (grow D h.next h2.next) h2 w'∧Ext ρ D h w ρ' h2 w'∧(cB vs).aW (grow D h.next h2.next)) a'.defers .returning w':=by
  refine l7 (by simp) g1 g2 g4 ?_;intro w'' k1 k2;have hrun:=kH (P:=P) (fn:=fn) g3 k1 hr hres;have k3:=hrun.2;rw[←s.1] at k1 k3;refine⟨_,hrun.1,ρ',rfl,k1.sub s,⟨by rw[s.1];exact k2.next,k2.bA,k2.size,k2.frame,fun b hb hn=>?_,
   fun b hb hn=>⟨(k2.old b hb (s.ne hn)).1,fun hw=>(k2.old b hb (s.ne hn)).2 (s.wr hw)⟩,fun b h1 h2=>k2.fresh b h1 (by rw[←s.1];exact h2),k2.tape,k2.os,k2.output⟩,k3⟩
  have ha:=k2.iz b hb hn;cases hx:h.get b with
  |some x=>rw[ho b hb (by rw[hx];simp),ha,hx]
  |none=>
   cases hy:h2.get b with
   |none=>rfl
   |some y=>have:=s.2 b y hy;rw[ha,hx] at this;simp at this
 rcases hx with rfl|rfl
 ·have hex:ex=.normal:=hex;subst hex;exact jf
 ·have hex:ex=.ret:=hex;subst hex;exact jf
end
end Ads
end Go.Proofs.YtmnolnoeibhjgaaGreat
