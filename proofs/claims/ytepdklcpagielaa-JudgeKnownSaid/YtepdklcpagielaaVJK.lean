/-
  Judge: the closed statement JudgeKnown.
-/
import Derived.Test.YtepdklcpagielaaVJgJ
import Derived.Test.YtepdklcpagielaaVJdD
set_option maxRecDepth 100000
set_option linter.unusedSimpArgs false
set_option linter.unusedVariables false
namespace Go.Proofs.Ytepdklcpagielaa
open Go Ads
namespace Ads
theorem T3{fs:Nat→Option aB}{ms:Nat→String→Option Nat}{B:Nat}{rd:Bool}{l:List bK}{e:Env}{h h1:Heap}{K:Env→Heap→Prop}{d a c gs s b:Nat}{want:Bool}{va vc v:AV}
  (hg:Tr.get e gs=some (.bool want))(ha:Tr.get e a=some va)(hc:Tr.get e c=some vc)(hv:RQ (.append s b) [va,vc] h=some (v,h1))(hw:VO fs ms B rd l (Env.put e (some d) v) h1 K):
  VO fs ms B rd (⟨some d,some (gs,want),.e (.append s b),[.t a,.t c]⟩::l) e h K:=by
 obtain⟨tr,e',h',hb,hk⟩:=hw;refine⟨_,e',h',.on (by simp[dD,hg]) (by simp[ey,ha,hc]) (.UB ?_) hb,hk⟩;show RQ (.append s b) [e.get a,e.get c] h=_;rw[show e.get a=va by simp[Env.get,ha],show e.get c=vc by simp[Env.get,hc]];exact hv
theorem Io{h:Heap}{s bytes b m n:Nat}{vs cs:List AV}{x:AV}(hg:h.get b=some (.cells vs true s))(hv:vs.length=m*s)(hsrc:iw s h x=some (n+1,cs))(hf:bx cs=true)(hb:(m+(n+1))*bytes≤140737488355328)(hm:m+(n+1)≤140737488355328):
  RQ (.append s bytes) [.sl b 0 m m true,x] h=some (.sl h.next 0 (m+(n+1)) (m+(n+1)) true,(h.set b (.cells vs false s)).new (.cells (vs++cs) false s)):=by
 have b2:Nat.ble ((m+(n+1))*bytes) 140737488355328=true:=Nat.ble_eq_true_of_le hb;have b3:Nat.ble (m+(n+1)) 9223372036854775807=true:=Nat.ble_eq_true_of_le (by omega);have b4:Nat.ble (0+m*s) vs.length=true:=Nat.ble_eq_true_of_le (by omega);have b5:Nat.beq vs.length (0+m*s)=true:=by rw[hv,Nat.zero_add];exact Nat.beq_refl _
 have AB:h.bn b 0 (m*s)=some vs:=by
  simp only[Heap.bn,Heap.row,hg,b4,cond_true,List.drop_zero];rw[←hv,List.take_length]
 simp only[RQ,hsrc,hg,AB];rw[hf,b2,b3,b5,Nat.beq_refl,Nat.beq_refl];rfl
theorem Fm{s bytes n:Nat}{h:Heap}{b:Nat}{x:AV}{cs:List AV}{wr:Bool}{es:Nat}(hg:h.get b=some (.cells [] wr es))(hs:iw s h x=some (n+1,cs))(hf:bx cs=true)(hb:(n+1)*bytes≤140737488355328)(hn:n+1≤140737488355328):
  eV (.append s bytes) [.sl b 0 0 0 false,x] h=some (.sl h.next 0 (n+1) (n+1) true,h.new (.cells cs true s)):=by
 have b2:Nat.ble ((0+(n+1))*bytes) 140737488355328=true:=Nat.ble_eq_true_of_le (by rw[Nat.zero_add];exact hb);have b3:Nat.ble (0+(n+1)) 9223372036854775807=true:=Nat.ble_eq_true_of_le (by omega);have AB:h.bn b 0 (0*s)=some []:=by
  rw[Nat.zero_mul];simp only[Heap.bn,Heap.row,hg];rfl
 simp only[eV,l2,hs];show cond (bx cs) _ _=_;rw[hf,cond_true];show cond (Nat.beq (n+1) 0&&Nat.ble 0 0) _ _=_;rw[show(Nat.beq (n+1) 0&&Nat.ble 0 0)=false from rfl,cond_false,show Nat.ble (0+(n+1)) 0=false by rw[Nat.zero_add];rfl,cond_false,b2,b3,Bool.and_self,cond_true,hg,AB];show some (AV.sl h.next 0 (0+(n+1)) (0+(n+1)) true,_)=_;rw[Nat.zero_add];rfl
end Ads
namespace Ir
def HY:Tk:=⟨40,30,3,0,0,2,2,1⟩
def AQ:List Pt:=[⟨4,2,2,[HY]⟩,⟨4,2,2,[HY]⟩]
theorem z4:PC fs ms 27 [] (cfg 2 AQ 3 []):=by
 refine⟨rfl,rfl,?_⟩;refine aC (af:=XG) false rfl (Nat.le_of_ble_eq_true rfl) ?_;conv=>whnf
 have key:∀{g:Heap} {b:Nat},g.get b=some (.cells (tk HY).cells true 0)→jo (fun _=>True) g (.sl b 0 1 1 false) (.fz 2 (dI [HY])):=fun hg=>.row (s:=8) trivial hg rfl rfl rfl (Nat.le_refl _) (Nat.le_refl _) (fun _=>rfl) (fun _=>rfl) rfl;refine .RA (.cons (.sl (s:=3) trivial rfl rfl rfl (Nat.le_refl _) (Nat.le_refl _) (Nat.le_refl _) (fun _=>rfl) (fun _=>rfl) ?_) (.cons .aD .nil));intro i x j c y hx hc hy
 match i,hx with
 |0,hx=>
  cases hx
  match j,hc with
  |0,hc=>cases hc;cases hy;exact .clean rfl
  |1,hc=>cases hc;cases hy;exact .clean rfl
  |2,hc=>cases hc;cases hy;exact key rfl
 |1,hx=>
  cases hx
  match j,hc with
  |0,hc=>cases hc;cases hy;exact .clean rfl
  |1,hc=>cases hc;cases hy;exact .clean rfl
  |2,hc=>cases hc;cases hy;exact key rfl
theorem C2:Fits AQ []:=⟨by decide,by decide,by decide⟩
theorem y6{h:Heap}{v:AV}{k:Nat}{l:List Nt}(hf:jo (fun _=>True) h v (.fz k (b8 l)))(hl:l.length*64≤140737488355328)(un:Int){Q:AV→Heap→Prop}(hQ:Q (.bool true) h):
  VD fs ms 4 [cfg 2 AQ 3 [],v,.int .i64 un] h Q:=
 ji (vi 2 AQ 3 [] k l un C2 (by decide) hl) rfl (.cons (.clean (oK ..)) (.cons hf (.cons (.clean rfl) .nil))) hQ
theorem pe{h:Heap}{b n:Nat}{l:List Nt}{wr:Bool}{es:Nat}(hg:h.get b=some (.cells (ai (b8 l)) wr es))(hn:n=l.length):jo (fun _=>True) h (.sl b 0 n n true) (.fz 0 (b8 l)):=
 gW trivial hg rfl (dK l) (by rw[bU];exact hn) (nG l)
theorem YN:∀l:List Nt,bx (ai (b8 l))=true:=kZ
theorem Wy{Mo l:List Nt}{b n:Nat}(hn:n=l.length)(hne:0<n)(hl:n≤100)(hm:Mo.length≤100){X3 X6 X9 X10 X12:AV}{B:Nat}{Q:AX→Env→Heap→Prop}
  (hQ:∀e' h',aP e' [(3,X3),(6,X6),(9,X9),(10,X10),(11,.fz 2 (b8 Mo)),(12,X12)]→Q (.exit 2) e' h'):
  ∀(m j:Nat) (h:Heap) (env:Env),Mo.length-j=m→j≤Mo.length→b<h.next→h.get b=some (.cells (ai (b8 l)) false 7)→
   aP env [(3,X3),(6,X6),(9,X9),(10,X10),(11,.fz 2 (b8 Mo)),(12,X12),(13,.sl b 0 n n true),(14,.int .i64 ((j:Nat):Int))]→
  VC fs ms B false (.loop fZ) env h Q:=by
 intro m;induction m using Nat.strongRecOn with
 |ind m ih=>
 intro j h env hm hj hb hg cH;refine ak 4 _ cH ?_;refine bJ (aj true ?_);conv=>whnf
 rw[bU];refine br (fun hc=>?_) (fun hc=>?_)<;>(try rw[hc])<;>(conv=>whnf)
 ·have hlt:j<Mo.length:=by have:=of_decide_eq_true hc;omega
  have rG:=kF (k:=2) hlt;generalize hx:Mo[j]=x at*;refine az (aL ?_);refine aj true ?_;conv=>whnf
  have g1:(h.new (.cells (ej [(.int .i64 0),(.int .i64 0),(.int .i64 0),(.int .i64 0),(.int .i64 0),(.int .i64 0),(.str [])] 0) true 0)).get h.next=some (.cells [] true 0):=an;have hsrc:iw 7 (h.new (.cells (ej [(.int .i64 0),(.int .i64 0),(.int .i64 0),(.int .i64 0),(.int .i64 0),(.int .i64 0),(.str [])] 0) true 0)) (.sl b 0 n n true)=some ((n-1)+1,ai (b8 l)):=by
   rw[show n-1+1=n by omega];exact so ((aO hb).trans hg) (by rw[c9 (dK l),bU,hn])
  refine aT (Fm g1 hsrc (kZ l) (by omega) (by omega)) fun h1 e1=>?_;conv=>whnf
  refine⟨_,rG,?_⟩;conv=>whnf
  refine⟨nt x,rfl,?_⟩;conv=>whnf
  have g2:h1.get (h.next+1)=some (.cells (ai (b8 l)) true 7):=by rw[e1];exact an (h:=h.new _)
  have n2:h1.next=h.next+2:=by rw[e1];rfl
  have k2:h1.get b=some (.cells (ai (b8 l)) false 7):=by rw[e1];exact(aO (h:=h.new _) (Nat.lt_succ_of_lt hb)).trans ((aO hb).trans hg)
  have gx:(h1.new (.cells (nt x).cells true 0)).get h1.next=some (.cells (nt x).cells true 0):=an;have g3:(h1.new (.cells (nt x).cells true 0)).get (h.next+1)=some (.cells (ai (b8 l)) true 7):=(aO (by omega)).trans g2;have k3:(h1.new (.cells (nt x).cells true 0)).get b=some (.cells (ai (b8 l)) false 7):=(aO (by omega)).trans k2;refine aT (qZ (m:=n-1+1) g3 (by rw[c9 (dK l),bU];omega) (so gx rfl) rfl (by omega) (by omega)) fun h2 e2=>?_;conv=>whnf
  refine⟨dc (by(conv=>whnf);repeat' (first|exact trivial|(exact⟨rfl,rfl,.inr ⟨_,_,rfl⟩⟩)|(refine⟨rfl,rfl,.inl ⟨rfl,fun o ho=>?_⟩⟩;cases ho;first|rfl)|(exact⟨rfl,.inr ⟨_,_,rfl⟩⟩)|(refine⟨rfl,.inl ⟨rfl,fun i o hi ho=>?_⟩⟩;cases hi;cases ho;first|rfl)|(refine And.intro (fun dZ=>(Bool.false_ne_true dZ).elim) ?_<;>conv=>whnf)|(refine And.intro (fun _=>?_) ?_<;>conv=>whnf)|(refine And.intro ?_ ?_<;>conv=>whnf))),?_⟩;have g4:h2.get (h1.next+1)=some (.cells (ai (b8 (l++[x]))) true 7):=by
   have Cx:ai (b8 (l++[x]))=ai (b8 l)++(nt x).cells:=by rw[b8,List.map_append,kE];simp[ai,b8]
   rw[e2,Cx];exact an (h:=(h1.new (.cells (nt x).cells true 0)).del (h.next+1))
  have k4:h2.get b=some (.cells (ai (b8 l)) false 7):=by
   rw[e2];exact(aO (h:=(h1.new (.cells (nt x).cells true 0)).del (h.next+1)) (show b<h1.next+1 by omega)).trans ((l8 (by omega)).trans k3)
  have n4:b<h2.next:=by rw[e2];show b<h1.next+2;omega
  have hfz:=pe (n:=n-1+1+1) g4 (by rw[List.length_append,List.length_singleton];omega);clear e1 e2 g1 g2 g3 k2 k3 gx hsrc;refine aa (z:=true) ?_;conv=>whnf
  refine au z4 ?_;conv=>whnf
  refine y6 hfz (by rw[List.length_append,List.length_singleton];omega) _ ?_;conv=>whnf
  refine aa (z:=true) ?_;conv=>whnf
  exact ih (Mo.length-(j+1)) (by omega) (j+1) _ _ rfl (by omega) n4 k4 ⟨rfl,rfl,rfl,rfl,rfl,rfl,rfl,ay (by omega),trivial⟩
 ·have hge:j=Mo.length:=by have:=of_decide_eq_false hc;omega
  exact hQ _ _ ⟨rfl,rfl,rfl,rfl,rfl,rfl,trivial⟩
def pF:Nt:=⟨1,4,0,0,0,0,[]⟩
def runN:Nt:=⟨1,1,0,-1,0,0,[]⟩
theorem v9(l m:List Nt):ai (b8 (l++m))=ai (b8 l)++ai (b8 m):=by rw[b8,List.map_append,kE];rfl
theorem Wx{Bg Mo:List Nt}(hbg:Bg.length=6)(hmo:Mo.length=30){X3 X6 X9:AV}{B:Nat}{Q:AX→Env→Heap→Prop}
  (hQ:∀e' h',aP e' [(3,X3),(6,X6),(9,X9),(10,.fz 2 (b8 Bg))]→Q (.exit 0) e' h'):
  ∀(m j:Nat) (h:Heap) (env:Env),Mo.length-j=m→j≤Mo.length→
   aP env [(3,X3),(6,X6),(9,X9),(10,.fz 2 (b8 Bg)),(11,.fz 2 (b8 Mo)),(12,.int .i64 ((j:Nat):Int))]→
  VC fs ms B false (.loop fY) env h Q:=by
 intro m;induction m using Nat.strongRecOn with
 |ind m ih=>
 intro j h env hm hj cH;refine ak 4 _ cH ?_;refine bJ (aj true ?_);conv=>whnf
 rw[bU];refine br (fun hc=>?_) (fun hc=>?_)<;>(try rw[hc])<;>(conv=>whnf)
 ·have hlt:j<Mo.length:=by have:=of_decide_eq_true hc;omega
  have rG:=kF (k:=2) hlt;generalize hx:Mo[j]=x at*;refine az (aL ?_);refine aj true ?_;conv=>whnf
  refine aj true ?_;conv=>whnf
  obtain⟨v1,g1,a1,r1,f1⟩:=GR.copy (s:=7) (bytes:=64) (lo:=h.next) (k:=2) (h:=h) (M:=b8 Bg) (Nat.le_refl _) (dK Bg) (kZ Bg) (by rw[bU];omega) (by rw[bU];omega);refine aT a1 fun h1 e1=>?_;subst e1;conv=>whnf
  refine aj true ?_;conv=>whnf
  refine⟨_,rG,?_⟩;conv=>whnf
  refine⟨nt x,rfl,?_⟩;conv=>whnf
  obtain⟨v2,g2,a2,r2,n2,_⟩:=r1.app (bytes:=64) (x:=nt x) f1.next rfl rfl (dK Bg) (by rw[bU];omega) (by rw[bU];omega);refine aT a2 fun h2 e2=>?_;subst e2;conv=>whnf
  have r2:GR 7 h.next h2 v2 (b8 (Bg++[x])):=by rw[b8,List.map_append];exact r2
  rcases r2 with⟨Pd,_⟩|⟨_,b,_,iH,hv,hg⟩
  ·simp[b8] at Pd
  rw[bU,List.length_append,List.length_singleton,hbg] at hv;have hle:(Bg++[x]).length=7:=by rw[List.length_append,List.length_singleton,hbg]
  clear a1 a2 r1 f1 n2;generalize Bg++[x]=l at*;subst hv;refine az ?_;refine VC.mono (Q:=fun y e h3=>y=.normal∧b<h3.next∧h3.get b=some (.cells (ai (b8 l)) false 7)∧aP e [(3,X3),(6,X6),(9,X9),(10,.fz 2 (b8 Bg)),(11,.fz 2 (b8 Mo)),(12,.int .i64 ((j:Nat):Int)),(13,.sl b 0 7 7 true)]) ?_ ?_
  ·refine az (Nf (wX 10 (dh (z:=true) ?_)));conv=>whnf
   refine au z4 ?_;conv=>whnf
   refine y6 (pe hg hle.symm) (by omega) _ ?_;conv=>whnf
   refine au z4 ?_;conv=>whnf
   have hg3:(h2.new (.cells (ai (b8 [pF,runN])) true 0)).get b=some (.cells (ai (b8 l)) true 7):=(aO iH).trans hg;have gx:(h2.new (.cells (ai (b8 [pF,runN])) true 0)).get h2.next=some (.cells (ai (b8 [pF,runN])) true 0):=an;refine T3 (a:=98) (c:=101) (gs:=96) (va:=.sl b 0 7 7 true) (vc:=.sl h2.next 0 2 2 false) rfl rfl rfl
    (Io (h:=h2.new (.cells (ai (b8 [pF,runN])) true 0)) (m:=7) (n:=1) (cs:=ai (b8 [pF,runN])) hg3 (by rw[c9 (dK l),bU,hle]) (so gx rfl) rfl (by omega) (by omega)) ?_
   refine dh (z:=true) ?_;conv=>whnf
   have gK:(((h2.new (.cells (ai (b8 [pF,runN])) true 0)).set b (.cells (ai (b8 l)) false 7)).new (.cells (ai (b8 l)++ai (b8 [pF,runN])) false 7)).get (h2.new (.cells (ai (b8 [pF,runN])) true 0)).next=some (.cells (ai (b8 (l++[pF,runN]))) false 7):=by
    rw[v9];exact an (h:=(h2.new _).set b _)
   have gb:(((h2.new (.cells (ai (b8 [pF,runN])) true 0)).set b (.cells (ai (b8 l)) false 7)).new (.cells (ai (b8 l)++ai (b8 [pF,runN])) false 7)).get b=some (.cells (ai (b8 l)) false 7):=
    (aO (h:=(h2.new _).set b _) (show b<h2.next+1 by omega)).trans aG
   have nb:b<(((h2.new (.cells (ai (b8 [pF,runN])) true 0)).set b (.cells (ai (b8 l)) false 7)).new (.cells (ai (b8 l)++ai (b8 [pF,runN])) false 7)).next:=by
    show b<h2.next+2;omega
   refine y6 (pe gK (by rw[List.length_append,hle];rfl)) (by rw[List.length_append,hle];decide) _ ?_;conv=>whnf
   refine aa (z:=true) ?_;conv=>whnf
   exact⟨rfl,nb,gb,rfl,rfl,rfl,rfl,rfl,rfl,rfl,trivial⟩
  ·rintro y e h3 ⟨rfl,nb,gb,he⟩;show VC fs ms _ _ _ _ _ _;refine ak 4 _ he ?_;refine aj true ?_;conv=>whnf
   refine aL ?_;refine Wy (l:=l) (n:=7) hle.symm (by omega) (by omega) (by omega) ?_ Mo.length 0 h3 _ rfl (Nat.zero_le _) nb gb ⟨rfl,rfl,rfl,rfl,rfl,rfl,rfl,rfl,trivial⟩;intro e' h' he';refine ak 4 _ he' ?_;refine aa (z:=true) ?_;conv=>whnf
   exact ih (Mo.length-(j+1)) (by omega) (j+1) _ _ rfl (by omega) ⟨rfl,rfl,rfl,rfl,rfl,ay (by omega),trivial⟩
 ·have hge:j=Mo.length:=by have:=of_decide_eq_false hc;omega
  exact hQ _ _ ⟨rfl,rfl,rfl,rfl,trivial⟩
structure Fj(h:Heap)(v w:AV)(l m:List Nt)(b c:Nat):Prop where
 ne:b≠c
 lb:b<h.next
 lc:c<h.next
 v:v=.sl b 0 l.length l.length true
 w:w=.sl c 0 m.length m.length true
 gb:h.get b=some (.cells (ai (b8 l)) true 7)
 gc:h.get c=some (.cells (ai (b8 m)) true 7)
theorem Fj.fr{h h':Heap}{v w:AV}{l m:List Nt}{b c:Nat}(r:Fj h v w l m b c)(f:Fr h h' []):Fj h' v w l m b c:=
 ⟨r.ne,Nat.lt_of_lt_of_le r.lb f.next,Nat.lt_of_lt_of_le r.lc f.next,r.v,r.w,(f.keep b r.lb (by simp)).trans r.gb,(f.keep c r.lc (by simp)).trans r.gc⟩
theorem Fj.sw{h:Heap}{v w:AV}{l m:List Nt}{b c:Nat}(r:Fj h v w l m b c):Fj h w v m l c b:=⟨r.ne.symm,r.lc,r.lb,r.w,r.v,r.gc,r.gb⟩
theorem Fj.app{h:Heap}{v w:AV}{l m:List Nt}{b c:Nat}(r:Fj h v w l m b c)(x:Nt)(hl:l.length≤1000){z:List AV}(hz:z=(nt x).cells):
  eV (.append 7 64) [v,.sl h.next 0 1 1 false] (h.new (.cells z true 0))=some (.sl (h.next+1) 0 (l++[x]).length (l++[x]).length true,((h.new (.cells z true 0)).del b).new (.cells (ai (b8 (l++[x]))) true 7))∧
  Fj (((h.new (.cells z true 0)).del b).new (.cells (ai (b8 (l++[x]))) true 7)) (.sl (h.next+1) 0 (l++[x]).length (l++[x]).length true) w (l++[x]) m (h.next+1) c:=by
 subst hz;have lb:=r.lb;have lc:=r.lc;have Cx:ai (b8 (l++[x]))=ai (b8 l)++(nt x).cells:=by rw[v9];simp[ai,b8]
 have hn:(l++[x]).length=l.length+1:=by rw[List.length_append];rfl
 refine⟨?_,?_,?_,?_,rfl,r.w,?_,?_⟩
 ·rw[r.v,Cx,hn];exact qZ ((aO lb).trans r.gb) (by rw[c9 (dK l),bU]) (so an rfl) rfl (by omega) (by omega)
 ·omega
 ·show h.next+1<h.next+1+1;omega
 ·show c<h.next+1+1;omega
 ·exact an (h:=(h.new _).del b)
 ·exact(aO (h:=(h.new _).del b) (show c<h.next+1 by omega)).trans ((l8 r.ne.symm).trans ((aO lc).trans r.gc))
theorem cp1{h:Heap}{b n:Nat}{l:List Nt}(hb:b<h.next)(hg:h.get b=some (.cells (ai (b8 l)) true 7))(hn:n=l.length)(h0:0<n)(hl:n≤1000):
  ∃h1,eV (.append 7 64) [.sl h.next 0 0 0 false,.sl b 0 n n true] (h.new (.cells [] true 0))=some (.sl (h.next+1) 0 n n true,h1)∧Fr h h1 []∧h1.next=h.next+2∧h1.get (h.next+1)=some (.cells (ai (b8 l)) true 7):=by
 have hsrc:iw 7 (h.new (.cells [] true 0)) (.sl b 0 n n true)=some ((n-1)+1,ai (b8 l)):=by
  rw[show n-1+1=n by omega];exact so ((aO hb).trans hg) (by rw[c9 (dK l),bU,hn])
 have:=Fm (bytes:=64) (an (h:=h) (x:=.cells [] true 0)) hsrc (kZ l) (by omega) (by omega);rw[show n-1+1=n by omega] at this;refine⟨_,this,(Fr.refl h []).new.new,rfl,?_⟩;exact an (h:=h.new _)
theorem YI{h h1:Heap}{b n:Nat}{l:List Nt}(f:Fr h h1 [])(hx:h1.next=h.next+2)(hg:h1.get (h.next+1)=some (.cells (ai (b8 l)) true 7))(hn:n=l.length)(x:Nt)(hl:n≤1000){z:List AV}(hz:z=(nt x).cells):
  ∃h2,eV (.append 7 64) [.sl (h.next+1) 0 n n true,.sl h1.next 0 1 1 false] (h1.new (.cells z true 0))=some (.sl (h1.next+1) 0 (n+1) (n+1) true,h2)∧Fr h h2 []∧h2.get (h1.next+1)=some (.cells (ai (b8 (l++[x]))) true 7)∧h2.next=h1.next+2:=by
 subst hz;have Cx:ai (b8 (l++[x]))=ai (b8 l)++(nt x).cells:=by rw[v9];simp[ai,b8]
 refine⟨_,qZ (m:=n) ((aO (by omega)).trans hg) (by rw[c9 (dK l),bU,hn]) (so an rfl) rfl (by omega) (by omega),⟨?_,fun c hc hn=>?_⟩,?_⟩
 ·show h.next≤h1.next+1+1;omega
 ·exact(aO (h:=(h1.new _).del _) (show c<h1.next+1 by omega)).trans ((l8 (by omega)).trans ((aO (by omega)).trans (f.keep c hc hn)))
 ·rw[Cx];exact⟨an (h:=(h1.new _).del _),rfl⟩
theorem WA{l m:List Nt}{b c:Nat}{v w:AV}(h0:l≠[])(hl:l.length≤1000){X3 X6 X9:AV}{t:Int}{B:Nat}{Q:AX→Env→Heap→Prop}
  (hQ:∀e' h',Fj h' v w l m b c→aP e' [(3,X3),(6,X6),(9,X9),(16,v),(17,w),(18,.int .i64 t)]→Q (.exit 6) e' h'):
  ∀(n j:Nat) (h:Heap) (env:Env),6-j=n→j≤6→Fj h v w l m b c→
   aP env [(3,X3),(6,X6),(9,X9),(16,v),(17,w),(18,.int .i64 t),(19,.int .i64 ((j:Nat):Int))]→
  VC fs ms B false (.loop gk) env h Q:=by
 intro n;induction n using Nat.strongRecOn with
 |ind n ih=>
 intro j h env hn hj r cH;refine ak 5 _ cH ?_;refine bJ (aj true ?_);conv=>whnf
 refine br (fun hc=>?_) (fun hc=>?_)<;>(try rw[hc])<;>(conv=>whnf)
 ·have hlt:j<6:=by have:=of_decide_eq_true hc;omega
  refine az (aL ?_);refine aj true ?_;conv=>whnf
  refine au z4 ?_;conv=>whnf
  have Un:0<l.length:=List.length_pos_iff.2 h0;obtain⟨h1,a1,f1,n1,g1⟩:=cp1 r.lb r.gb rfl Un hl;rw[r.v];refine aT a1 fun La e1=>?_;subst e1;conv=>whnf
  obtain⟨h2,a2,f2,g2,_⟩:=YI (b:=b) f1 n1 g1 rfl ⟨t,(j:Int),0,0,0,0,[]⟩ hl rfl;refine aT a2 fun rF e2=>?_;subst e2;conv=>whnf
  refine y6 (pe g2 (by rw[List.length_append];rfl)) (by rw[List.length_append,List.length_singleton];omega) _ ?_;conv=>whnf
  refine aa (z:=true) ?_;conv=>whnf
  refine aa (z:=true) ?_;conv=>whnf
  have:=r.v;subst this;refine ih (6-(j+1)) (by omega) (j+1) _ _ rfl (by omega) (r.fr f2) ?_;exact⟨rfl,rfl,rfl,rfl,rfl,rfl,ay (by omega),trivial⟩
 ·have hge:j=6:=by have:=of_decide_eq_false hc;omega
  exact hQ _ _ r ⟨rfl,rfl,rfl,rfl,rfl,rfl,trivial⟩
theorem Wz{X3 X6 X9:AV}{B:Nat}{Q:AX→Env→Heap→Prop}
  (hQ:∀e' h' v w l m b c,Fj h' v w l m b c→l.length≤100→aP e' [(3,X3),(6,X6),(9,X9),(16,v)]→Q (.exit 4) e' h'):
  ∀(n j:Nat) (h:Heap) (env:Env) (v w:AV) (l m:List Nt) (b c:Nat) (J:Int),J=((j:Nat):Int)→48-j=n→j≤48→Fj h v w l m b c→l≠[]→m≠[]→l.length≤j+10→m.length≤j+10→
   aP env [(3,X3),(6,X6),(9,X9),(16,v),(17,w),(18,.int .i64 J)]→
  VC fs ms B false (.loop ga) env h Q:=by
 intro n;induction n using Nat.strongRecOn with
 |ind n ih=>
 intro j h env v w l m b c J hJ hn hj r JZ hm0 hl hm cH;refine ak 5 _ cH ?_;refine bJ (aj true ?_);conv=>whnf
 refine br (fun hc=>?_) (fun hc=>?_)<;>(try rw[hc])<;>(conv=>whnf)
 ·have hlt:j<48:=by have:=of_decide_eq_true hc;omega
  refine az (aL ?_);refine az ?_;refine VC.mono (Q:=fun y e h1=>y=.normal∧∃v1 w1 l1 m1 b1 c1,Fj h1 v1 w1 l1 m1 b1 c1∧l1≠[]∧m1≠[]∧l1.length≤j+11∧m1.length≤j+11∧aP e [(3,X3),(6,X6),(9,X9),(16,v1),(17,w1),(18,.int .i64 J)]) ?_ ?_
  ·refine aa (z:=true) ?_;conv=>whnf
   refine⟨.int .i64 (J.tmod 4),rfl,?_⟩;conv=>whnf
   refine br (fun hc=>?_) (fun hc=>?_)<;>(try rw[hc])<;>(conv=>whnf)
   ·obtain⟨a1,r1⟩:=r.app ⟨J,1,0,-1,0,0,[]⟩ (by omega) rfl;refine aT a1 fun h1 e1=>?_;rw[←e1] at r1;clear e1 a1;conv=>whnf
    obtain⟨a2,r2⟩:=r1.sw.app ⟨J,1,0,-1,0,0,[]⟩ (by omega) rfl;refine aT a2 fun h2 e2=>?_;rw[←e2] at r2;clear e2 a2;conv=>whnf
    exact⟨rfl,_,_,_,_,_,_,r2.sw,by simp,by simp,by rw[List.length_append];simp;omega,by rw[List.length_append];simp;omega,rfl,rfl,rfl,rfl,rfl,rfl,trivial⟩
   ·exact⟨rfl,_,_,_,_,_,_,r,JZ,hm0,by omega,by omega,rfl,rfl,rfl,rfl,rfl,rfl,trivial⟩
  rintro y e h1 ⟨rfl,v1,w1,l1,m1,b1,c1,r1,J0,Uu,hll,hml,he⟩;show VC fs ms _ _ _ _ _ _;refine ak 5 _ he ?_;refine aj true ?_;conv=>whnf
  refine au z4 ?_;conv=>whnf
  obtain⟨h2,a1,f1,n1,g1⟩:=cp1 r1.lc r1.gc rfl (List.length_pos_iff.2 Uu) (by omega);have hw:=r1.w;subst hw;refine aT a1 fun rF e1=>?_;subst e1;conv=>whnf
  obtain⟨h3,a2,f2,g2,_⟩:=YI (b:=c1) f1 n1 g1 rfl ⟨J,2,0,0,0,0,[]⟩ (by omega) rfl;refine aT a2 fun JW e2=>?_;subst e2;conv=>whnf
  refine y6 (pe g2 (by rw[List.length_append];rfl)) (by rw[List.length_append,List.length_singleton];omega) _ ?_;conv=>whnf
  refine aj true ?_;conv=>whnf
  refine aL ?_;refine WA (l:=l1) (m:=m1) J0 (by omega) (t:=J) ?_ 5 1 JW _ rfl (by omega) (r1.fr f2) ⟨rfl,rfl,rfl,rfl,rfl,rfl,rfl,trivial⟩;intro e' h' r' he';refine ak 5 _ he' ?_;refine aa (z:=true) ?_;conv=>whnf
  subst hJ;refine ih (48-(j+1)) (by omega) (j+1) _ _ _ _ _ _ _ _ _ rfl rfl (by omega) r' J0 Uu (by omega) (by omega) ?_;exact⟨rfl,rfl,rfl,rfl,rfl,ay (by omega),trivial⟩
 ·have hge:j=48:=by have:=of_decide_eq_false hc;omega
  exact hQ _ _ _ _ _ _ _ _ r (by omega) ⟨rfl,rfl,rfl,rfl,trivial⟩
def Ku:List Nt:=[⟨0,6,0,0,0,0,[]⟩,⟨0,6,1,0,0,0,[]⟩,⟨0,2,0,0,0,0,[]⟩,⟨0,2,1,0,0,0,[]⟩,⟨0,5,0,0,4,0,[]⟩,⟨0,1,0,0,0,0,[]⟩]
def Rk:List Nt:=[⟨0,0,0,0,0,0,[]⟩,⟨(-1),1,0,0,0,0,[]⟩,⟨51,1,0,0,0,0,[]⟩,⟨0,9,0,0,0,0,[]⟩,⟨0,1,2,0,0,0,[]⟩,⟨0,1,(-1),0,0,0,[]⟩,⟨0,1,0,(-2),0,0,[]⟩,⟨0,1,0,1,0,0,[]⟩,⟨0,3,0,(-1),0,0,[]⟩,⟨0,6,0,1,0,0,[]⟩,⟨0,7,0,0,0,0,[]⟩,⟨0,8,0,0,402,0,[]⟩,⟨0,6,0,0,0,0,[]⟩,⟨0,1,0,0,0,0,[]⟩,⟨1,1,1,0,0,0,[]⟩,⟨1,1,0,0,0,0,[]⟩,⟨1,1,0,(-1),0,0,[]⟩,⟨2,1,0,0,0,0,[]⟩,⟨4,1,0,0,0,0,[]⟩,⟨1,3,0,0,0,0,[]⟩,⟨1,4,0,0,0,0,[]⟩,⟨1,5,0,0,5,0,[]⟩,⟨1,5,0,0,4,0,[]⟩,⟨1,5,1,0,4,0,[]⟩,⟨1,5,1,0,5,0,[]⟩,⟨1,5,1,0,4,9,[]⟩,⟨0,2,0,0,0,0,[]⟩,⟨0,2,0,0,0,141,[]⟩,⟨1,7,0,0,0,0,[]⟩,⟨1,7,1,0,0,0,[]⟩]
theorem CF:PC fs ms 7 [] (.bool true):=by
 refine aX rfl rfl ?_;refine bw (af:=C7) rfl (Nat.le_of_ble_eq_true rfl) ?_;generalize(⟨0,.nil⟩:Heap)=h0;generalize hQ:(fun(v:AV) (_:Heap)=>v=.bool true)=Q;have hend:∀h,Q (.bool true) h:=by subst hQ;intro h;rfl
 clear hQ;conv=>whnf
 refine aj true ?_;conv=>whnf
 refine aj true ?_;conv=>whnf
 refine wW [] (args':=[cfg 3 [] 3 [],.fz 3 (b8 []),.int .i64 0]) (.cons (.RA (.cons .aD (.cons .aD .nil))) (.cons .aD (.cons (.clean rfl) .nil))) ?_;refine au (qh (k:=3) (ko:=3) (kl:=3) (L:=[]) (O:=[]) ⟨by decide,by decide,by decide⟩ (fun _=>rfl) (l:=[]) (by decide) 0) ?_;conv=>whnf
 refine aj true ?_;conv=>whnf
 refine au z4 ?_;conv=>whnf
 refine wW [] (args':=[cfg 2 AQ 3 [],.fz 3 (b8 []),.int .i64 (-1)]) (.cons (.clean (oK ..)) (.cons .aD (.cons (.clean rfl) .nil))) ?_;refine au (qh (k:=2) (ko:=3) (kl:=3) (L:=AQ) (O:=[]) C2 (by decide) (l:=[]) (by decide) (-1)) ?_;conv=>whnf
 refine aj true ?_;conv=>whnf
 refine au z4 ?_;conv=>whnf
 refine wW [] (args':=[cfg 2 AQ 3 [],.fz 3 (b8 []),.int .i64 10001]) (.cons (.clean (oK ..)) (.cons .aD (.cons (.clean rfl) .nil))) ?_;refine au (qh (k:=2) (ko:=3) (kl:=3) (L:=AQ) (O:=[]) C2 (by decide) (l:=[]) (by decide) 10001) ?_;conv=>whnf
 have e3:(di [] [] [] 0).2.2=50:=by kernel_rfl
 have e6:(di AQ [] [] (-1)).2.2=5:=by kernel_rfl
 have e9:(di AQ [] [] 10001).2.2=5:=by kernel_rfl
 refine ak 4 [(3,.int .i64 50),(6,.int .i64 5),(9,.int .i64 5)] ⟨congrArg (fun z=>some (AV.int .i64 z)) e3,congrArg (fun z=>some (AV.int .i64 z)) e6,congrArg (fun z=>some (AV.int .i64 z)) e9,trivial⟩ ?_;generalize(ck [] (ck [] (ck [] h0)))=h1;clear e3 e6 e9;refine aj true ?_;conv=>whnf
 refine dV [h1.next] (i:=10) (v':=.fz 2 (b8 Ku)) rfl (.row (s:=7) (by simp) an rfl rfl rfl (Nat.le_refl _) (Nat.le_refl _) (fun _=>rfl) (fun _=>rfl) rfl) ?_;obtain⟨Bg,hBg⟩:∃Bg,Bg=Ku:=⟨_,rfl⟩;rw[←hBg];have lB:Bg.length=6:=by rw[hBg];rfl
 clear hBg;generalize ck _ _=h2;refine ak 4 [(3,.int .i64 50),(6,.int .i64 5),(9,.int .i64 5),(10,.fz 2 (b8 Bg))] ⟨rfl,rfl,rfl,rfl,trivial⟩ ?_;refine aj true ?_;conv=>whnf
 refine dV [h2.next] (i:=11) (v':=.fz 2 (b8 Rk)) rfl (.row (s:=7) (by simp) an rfl rfl rfl (Nat.le_refl _) (Nat.le_refl _) (fun _=>rfl) (fun _=>rfl) rfl) ?_;obtain⟨Mo,hMo⟩:∃Mo,Mo=Rk:=⟨_,rfl⟩;rw[←hMo];have lM:Mo.length=30:=by rw[hMo];rfl
 clear hMo;generalize ck _ _=h3;refine ak 4 [(3,.int .i64 50),(6,.int .i64 5),(9,.int .i64 5),(10,.fz 2 (b8 Bg)),(11,.fz 2 (b8 Mo))] ⟨rfl,rfl,rfl,rfl,rfl,trivial⟩ ?_;refine az (aj true ?_);conv=>whnf
 refine aL ?_;refine Wx lB lM ?_ Mo.length 0 h3 _ rfl (Nat.zero_le _) ⟨rfl,rfl,rfl,rfl,rfl,rfl,trivial⟩;intro e' h4 he;show VC fs ms _ _ _ _ _ _;refine ak 4 _ he ?_;clear he;refine aj true ?_;conv=>whnf
 refine⟨_,Hh (n:=1) (by omega),?_⟩;conv=>whnf
 have l1:(Bg.take 1).length=1:=by rw[List.length_take];omega
 generalize Bg.take 1=B1 at*;have a1:=Fm (s:=7) (bytes:=64) (n:=0) (an (h:=h4) (x:=.cells [] true 0)) (x:=.fz (cV 2 false 1 Bg.length Bg.length) (b8 B1)) (by rw[qB (dK B1),bU,l1]) (kZ B1) (by omega) (by omega);refine aT a1 fun h5 e5=>?_;have f5:Fr h4 h5 []:=by rw[e5];exact(Fr.refl h4 []).new.new
 have n5:h5.next=h4.next+2:=by rw[e5];rfl
 have g5:h5.get (h4.next+1)=some (.cells (ai (b8 B1)) true 7):=by rw[e5];exact an (h:=h4.new _)
 clear e5 a1;conv=>whnf
 obtain⟨h6,a2,f6,g6,n6⟩:=YI (b:=0) (n:=0+1) f5 n5 g5 (by omega) ⟨0,2,0,0,0,0,[]⟩ (by omega) rfl;refine aT a2 fun O7 e6=>?_;subst e6;clear a2;conv=>whnf
 have lL:(B1++[(⟨0,2,0,0,0,0,[]⟩:Nt)]).length=0+1+1:=by rw[List.length_append,l1];rfl
 generalize hL:B1++[(⟨0,2,0,0,0,0,[]⟩:Nt)]=L1 at*;have YU:h5.next+1<O7.next:=by omega
 clear f6 g5 f5 hL;generalize h5.next+1=b1 at*;clear n6 n5;refine ak 5 [(3,.int .i64 50),(6,.int .i64 5),(9,.int .i64 5),(16,.sl b1 0 2 2 true)] ⟨rfl,rfl,rfl,rfl,trivial⟩ ?_;refine aj true ?_;conv=>whnf
 obtain⟨h7,a3,f7,n7,g7⟩:=cp1 (n:=2) YU g6 (by omega) (by omega) (by omega);refine aT a3 fun YT e7=>?_;subst e7;clear a3;conv=>whnf
 obtain⟨h8,a4,f8,g8,n8⟩:=YI (b:=0) (n:=2) f7 n7 g7 (by omega) ⟨0,4,0,0,0,0,[]⟩ (by omega) rfl;refine aT a4 fun h8' e8=>?_;subst e8;clear a4;conv=>whnf
 have r8:Fj h8' (.sl b1 0 2 2 true) (.sl (YT.next+1) 0 3 3 true) L1 (L1++[(⟨0,4,0,0,0,0,[]⟩:Nt)]) b1 (YT.next+1):=by
  refine⟨by omega,by omega,by omega,by rw[lL],by rw[List.length_append,lL];rfl,(f8.keep b1 YU (by simp)).trans g6,g8⟩
 refine ak 5 [(3,.int .i64 50),(6,.int .i64 5),(9,.int .i64 5),(16,.sl b1 0 2 2 true),(17,.sl (YT.next+1) 0 3 3 true)] ⟨rfl,rfl,rfl,rfl,rfl,trivial⟩ ?_;refine az (aj true ?_);conv=>whnf
 refine aL ?_;refine Wz ?_ 48 0 h8' _ _ _ _ _ _ _ 0 rfl rfl (by omega) r8 (by intro h;rw[h] at lL;simp at lL) (by simp) (by omega) (by rw[List.length_append,lL];decide) ⟨rfl,rfl,rfl,rfl,rfl,rfl,trivial⟩;intro e2 h9 v w l m b c r hl he;show VC fs ms _ _ _ _ _ _;have hv:=r.v;refine ak 5 _ he ?_;clear he;refine aj true ?_;conv=>whnf
 refine au lK ?_;conv=>whnf
 refine ji (yA 0 l 0 3 9 (by omega)) rfl (.cons (by rw[hv];exact pe r.gb rfl) (.clean rfl)) ?_;conv=>whnf
 refine wW [] (args':=[.fz 3 (b8 []),.int .i64 9,.agg [.int .i64 0,.int .i64 0]]) (.cons .aD (.clean rfl)) ?_;refine au (yA 3 [] 9 0 0 (by decide)) ?_;conv=>whnf
 refine aa (z:=true) ?_;conv=>whnf
 exact hend _
end Ir
end Go.Proofs.Ytepdklcpagielaa
