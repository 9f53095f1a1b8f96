/-
  Gate: what happens at the beginning of a tick, task by task. Gate: who runs in a tick, runs. Gate: what happens at the beginning of a tick. GateKeeps.
-/
import Derived.Test.YtecdcefacdodgaaVGkP
import Derived.Test.YtecdcefacdodgaaVJobC
import Derived.Test.YtecdcefacdodgaaVGatQ
set_option maxRecDepth 100000
set_option linter.unusedSimpArgs false
set_option linter.unusedVariables false
namespace Go.Proofs.Ytecdcefacdodgaa
open Go Ads
namespace Ir
open Edf
def rcs(K kw kl:Nat)(M:List Pt)(w:List Bool)(lt:List Int)(d:Nat):List AV:=
 [.fz K (pts M),.aq,.fz kw (gG w),.sl 1 0 M.length M.length false,.sl 2 0 M.length M.length false,.sl 3 0 (4*M.length) (4*M.length) false,.sl 4 0 (4*M.length) (4*M.length) false,.int .i64 (d:Nat),.fz kl (ints lt)]
def sL(S:List (Int×Int)):List Int:=S.map (·.2)
def sE(S:List (Int×Int)):List Int:=S.map (·.1)
theorem D3(S:List (Int×Int)):(sL S).length=S.length:=by simp[sL]
theorem D2(S:List (Int×Int)):(sE S).length=S.length:=by simp[sE]
theorem JQ{S:List (Int×Int)}{i:Nat}(h:i<S.length):(ints (sL S))[i]?=some (.int .i64 (jL S i)):=by
 rw[uv h,ints,List.getElem?_map,sL,List.getElem?_map,List.getElem?_eq_getElem h];rfl
theorem JO{S:List (Int×Int)}{i:Nat}(h:i<S.length):(ints (sE S))[i]?=some (.int .i64 (jE S i)):=by
 rw[E4 h,ints,List.getElem?_map,sE,List.getElem?_map,List.getElem?_eq_getElem h];rfl
theorem JR{S:List (Int×Int)}{i:Nat}(h:i<S.length)(x:Int×Int):Heap.splice (ints (sL S)) i [.int .i64 x.2]=ints (sL (S.set i x)):=by
 rw[ints_set (by rw[D3];exact h),sL,sL,List.map_set]
theorem JP{S:List (Int×Int)}{i:Nat}(h:i<S.length)(x:Int×Int):Heap.splice (ints (sE S)) i [.int .i64 x.1]=ints (sE (S.set i x)):=by
 rw[ints_set (by rw[D2];exact h),sE,sE,List.map_set]
section
variable (K kw kl:Nat) (M:List Pt) (w:List Bool) (lt:List Int)
def RH(G:GS):Heap:=H8 (some (.cells (rcs K kw kl M w lt G.d) true 0)) (some (.cells (ints (sL G.s)) true 0)) (some (.cells (ints (sE G.s)) true 0)) (some (.cells (jc G.j) true 0)) (some (.cells (ints G.n) true 0)) none none none
def QD(x:Pt)(u i q:Nat):List (Nat×AV):=[(0,.ptr 0 0),(1,.int .i64 (u:Nat)),(5,.int .i64 (i:Nat)),(6,.fp (pt x).cells 0),(7,.int .i64 (q:Nat))]
end
theorem PU{K kw kl:Nat}{M:List Pt}{w:List Bool}{lt:List Int}{d:Nat}:jg id 8 (.cells (rcs K kw kl M w lt d) true 0) (.cells (rcs K kw kl M w lt d) true 0):=by
 refine .cells rfl fun a x y hx hy=>?_;have OI:=aS M;have OJ:=lg w;have OK:=aE lt
 match a,hx,hy with
 |0,hx,hy=>cases hx;cases hy;exact .cl (by simp[AV.cl,OI])
 |1,hx,hy=>cases hx;cases hy;exact .cl rfl
 |2,hx,hy=>cases hx;cases hy;exact .cl (by simp[AV.cl,OJ])
 |3,hx,hy=>cases hx;cases hy;exact .sl (by omega)
 |4,hx,hy=>cases hx;cases hy;exact .sl (by omega)
 |5,hx,hy=>cases hx;cases hy;exact .sl (by omega)
 |6,hx,hy=>cases hx;cases hy;exact .sl (by omega)
 |7,hx,hy=>cases hx;cases hy;exact .cl rfl
 |8,hx,hy=>cases hx;cases hy;exact .cl (by simp[AV.cl,OK])
theorem rO{K kw kl:Nat}{M:List Pt}{w:List Bool}{lt:List Int}{G:GS}{h1:Heap}(g0:h1.get 0=some (.cells (rcs K kw kl M w lt G.d) true 0))(g1:h1.get 1=some (.cells (ints (sL G.s)) true 0))(g2:h1.get 2=some (.cells (ints (sE G.s)) true 0))(g3:h1.get 3=some (.cells (jc G.j) true 0))(g4:h1.get 4=some (.cells (ints G.n) true 0)):
  ∀b x,B8 (some (.cells (rcs K kw kl M w lt G.d) true 0)) (some (.cells (ints (sL G.s)) true 0)) (some (.cells (ints (sE G.s)) true 0)) (some (.cells (jc G.j) true 0)) (some (.cells (ints G.n) true 0)) none none none b=some x→∃y,h1.get (id b)=some y∧jg id 8 x y:=
 vm (bf ⟨_,g0,PU⟩) (bf ⟨_,g1,aX rfl (aE _)⟩) (bf ⟨_,g2,aX rfl (aE _)⟩) (bf ⟨_,g3,aX rfl (NF _)⟩) (bf ⟨_,g4,aX rfl (aE _)⟩) aZ aZ aZ
theorem D0{K kw kl:Nat}{M:List Pt}{w:List Bool}{lt:List Int}{x:Pt}{u i q:Nat}{G:GS}{e1:Env}{h1:Heap}(h_0:Tr.get e1 0=some (.ptr 0 0))(h_1:Tr.get e1 1=some (.int .i64 (u:Nat)))(h_5:Tr.get e1 5=some (.int .i64 (i:Nat)))(h_6:Tr.get e1 6=some (.fp (pt x).cells 0))(h_7:Tr.get e1 7=some (.int .i64 (q:Nat)))
  (g0:h1.get 0=some (.cells (rcs K kw kl M w lt G.d) true 0))(g1:h1.get 1=some (.cells (ints (sL G.s)) true 0))(g2:h1.get 2=some (.cells (ints (sE G.s)) true 0))(g3:h1.get 3=some (.cells (jc G.j) true 0))(g4:h1.get 4=some (.cells (ints G.n) true 0)):GC 8 id e1 h1 (ek 5 (QD x u i q)) (RH K kw kl M w lt G):=
 Di id ⟨⟨_,h_0,.ptr (by omega)⟩,⟨_,h_1,.cl rfl⟩,⟨_,h_5,.cl rfl⟩,⟨_,h_6,.cl (N2 x)⟩,⟨_,h_7,.cl rfl⟩,trivial⟩ (rO g0 g1 g2 g3 g4) (by decide) (by intro b hb;rfl) (by omega)
theorem Kg{Q:AX→Env→Heap→Prop}(K kw kl:Nat)(M:List Pt)(w:List Bool)(lt:List Int)(x:Pt)(u i:Nat)(G:GS)(hi:i<M.length)(hx:pA M i=x)(ES:M.length≤4)(ho:∀t,t∈x.ts→sV t)(hok:xw M.length G)(hu:u<1000)(hd:G.d≤100000)(V6:x.ts.length≤4)(hlt:lt.length<2^62)
  (yI:∀q,q<x.ts.length→0<jL G.j (4*i+q)→((u:Nat):Int)<jE G.j (4*i+q))
  (hK:VC fs ms 8 false (.loop cV) (ek 5 (QD x u i x.ts.length)) (RH K kw kl M w lt (ke M lt u i G x.ts.length)) Q):
  VC fs ms 8 false (.loop cV) (ek 5 (QD x u i 0)) (RH K kw kl M w lt G) Q:=by
 refine gk 8 5 x.ts.length (fun _=>True) (QD x u i) (fun q=>RH K kw kl M w lt (ke M lt u i G q)) ?_ (fun _=>hK) trivial;clear hK;intro q hq _;have xM:=vb (M:=M) (lt:=lt) (u:=u) (i:=i) hok q;obtain⟨r1,r2,r3,r4⟩:=w8 (M:=M) (lt:=lt) (u:=u) hok hi i q (by omega) q (by omega);rw[if_neg (by omega)] at r1 r2;have hm:=yI q hq;rw[←r1,←r2] at hm;have hdR:(ke M lt u i G q).d≤G.d+q:=by
  clear hm r1 r2 r3 r4 xM yI;induction q with
  |zero=>exact Nat.le_refl _
  |succ q ih=>
   have:=ih (by omega);rw[ke,nY];split
   ·show _+1≤_;omega
   ·omega
 have di:ke M lt u i G (q+1)=nY M lt u i (ke M lt u i G q) q:=rfl;have hto:=ho _ (List.getElem_mem hq);have CL:=Ay hq;have r7:=mK (k:=x.k) hq;have hex:=vD (md:=20) (by omega) lt (ke M lt u i G q).d;have z3:=Dc (md:=20) (lt:=lt) (d:=(ke M lt u i G q).d);clear r1 r2 r3 r4;generalize ke M lt u i G (q+1)=R' at*;generalize ke M lt u i G q=R at*;obtain⟨S,J,n,d⟩:=R;simp only at hm hdR hex z3;obtain⟨o1,o2,o3⟩:=xM;simp only at o1 o2 o3;have le:=Mj (J:=J) (i:=4*i+q) (by omega);have ll:=Pr (J:=J) (i:=4*i+q) (by omega);have ln:=ints_at (n:=n) (i:=4*i+q) (by omega);have Ny:=vY J;have htD:tD x.ts q=x.ts[q].d:=by rw[tD,CL]
 have htC:tC x.ts q=x.ts[q].w:=by rw[tC,CL]
 have htP:tP x.ts q=x.ts[q].p:=by rw[tP,CL]
 unfold nY at di;rw[hx,htD,htC,htP] at di;simp only at di;generalize x.ts[q]=t at*;unfold sV at hto;generalize RG:extra 20 lt d=ex at*;have a1:IntKind.i64.wrap (4*((i:Nat):Int))=((4*i:Nat):Int):=by rw[IntWalk.i64_in _ (by omega)];omega
 have a2:IntKind.i64.wrap (((4*i:Nat):Int)+((q:Nat):Int))=((4*i+q:Nat):Int):=by rw[IntWalk.i64_in _ (by omega)];omega
 obtain⟨U,hU⟩:∃U:Int,((u:Nat):Int)=U:=⟨_,rfl⟩;have b1:IntKind.i64.wrap (U+t.d)=U+t.d:=IntWalk.i64_in _ (by omega);have b2:IntKind.i64.wrap (U+t.p)=U+t.p:=IntWalk.i64_in _ (by omega);have b3:IntKind.i64.wrap (U+t.p+ex)=U+t.p+ex:=IntWalk.i64_in _ (by omega);have Tt:=DH J (4*i+q) (by omega) (U+t.d,t.w);have Qo:=ints_set (n:=n) (i:=4*i+q) (by omega) (U+t.p);have Np:(Heap.splice (ints n) (4*i+q) [.int .i64 (U+t.p)])[4*i+q]?=some (.int .i64 (U+t.p)):=by
  rw[Qo,ints_at (by simp;omega),DK (by omega),if_pos rfl]
 have W7:Heap.splice (Heap.splice (ints n) (4*i+q) [.int .i64 (U+t.p)]) (4*i+q) [.int .i64 (U+t.p+ex)]=ints (n.set (4*i+q) (U+t.p+ex)):=by
  rw[Qo,ints_set (by simp;omega),List.set_set]
 rw[hU] at di hm;have hend:∀(e1:Env) (h1:Heap),Tr.get e1 0=some (.ptr 0 0)→Tr.get e1 1=some (.int .i64 U)→Tr.get e1 5=some (.int .i64 (i:Nat))→Tr.get e1 6=some (.fp (pt x).cells 0)→Tr.get e1 7=some (.int .i64 ((q+1:Nat):Int))→
   h1.get 0=some (.cells (rcs K kw kl M w lt R'.d) true 0)→h1.get 1=some (.cells (ints (sL R'.s)) true 0)→h1.get 2=some (.cells (ints (sE R'.s)) true 0)→h1.get 3=some (.cells (jc R'.j) true 0)→h1.get 4=some (.cells (ints R'.n) true 0)→True∧∃p,GC 8 p e1 h1 (ek 5 (QD x u i (q+1))) (RH K kw kl M w lt R'):=by
  intro e1 h1 h_0 h_1 h_5 h_6 h_7 g0 g1 g2 g3 g4;exact⟨trivial,id,D0 h_0 (by rw[hU];exact h_1) h_5 h_6 h_7 g0 g1 g2 g3 g4⟩
 have hrc:some (ck.cells (Heap.splice [.fz K (pts M),.aq,.fz kw (gG w),.sl 1 0 M.length M.length false,.sl 2 0 M.length M.length false,.sl 3 0 (4*M.length) (4*M.length) false,.sl 4 0 (4*M.length) (4*M.length) false,.int .i64 (d:Nat),.fz kl (ints lt)] 7 [.int .i64 (IntKind.i64.wrap (((d:Nat):Int)+1))]) true 0)=some (ck.cells (rcs K kw kl M w lt (d+1)) true 0):=by
  rw[E2 (by omega)];rfl
 have hE:QD x u i q=[(0,.ptr 0 0),(1,.int .i64 U),(5,.int .i64 (i:Nat)),(6,.fp (pt x).cells 0),(7,.int .i64 (q:Nat))]:=by rw[←hU];rfl
 rw[hE];show kX fs ms 8 false false _ (ek 5 [(0,.ptr 0 0),(1,.int .i64 U),(5,.int .i64 (i:Nat)),(6,.fp (pt x).cells 0),(7,.int .i64 (q:Nat))]) ⟨8,.node (.node (.node (.node .nil none .nil) (some (.cells (jc J) true 0)) .nil) (some (.cells (ints (sL S)) true 0)) (.node .nil none .nil)) (some (.cells [.fz K (pts M),.aq,.fz kw (gG w),.sl 1 0 M.length M.length false,.sl 2 0 M.length M.length false,.sl 3 0 (4*M.length) (4*M.length) false,.sl 4 0 (4*M.length) (4*M.length) false,.int .i64 (d:Nat),.fz kl (ints lt)] true 0)) (.node (.node .nil (some (.cells (ints n) true 0)) .nil) (some (.cells (ints (sE S)) true 0)) (.node .nil none .nil))⟩ _;conv=>whnf
 refine fP (by rw[bM];simp;omega) (fun hc=>?_)
 (try rw[hc])
 conv=>whnf
 rw[a1];conv=>whnf
 rw[a2];conv=>whnf
 refine⟨_,iM (by omega),?_⟩;conv=>whnf
 refine⟨_,rfl,?_⟩;conv=>whnf
 refine dX (qz rfl ll) ?_;conv=>whnf
 by_cases hl:0<jL J (4*i+q)
 ·refine fP (by simpa using hl) (fun hc=>?_)
  (try rw[hc])
  conv=>whnf
  refine⟨_,iM (by omega),?_⟩;conv=>whnf
  refine⟨_,rfl,?_⟩;conv=>whnf
  refine dX (qz rfl le) ?_;conv=>whnf
  have hm:=hm hl;refine fO (by simp;omega) (fun hc=>?_)
  (try rw[hc])
  conv=>whnf
  refine⟨_,eU (by omega),?_⟩;conv=>whnf
  refine dX (qz rfl ln) ?_;conv=>whnf
  by_cases hr:nX n (4*i+q)≤U
  ·refine fP (by simpa using hr) (fun hc=>?_)
   (try rw[hc])
   conv=>whnf
   rw[if_pos hr] at di;refine⟨_,r7,?_⟩;conv=>whnf
   rw[b1];conv=>whnf
   refine⟨_,r7,?_⟩;conv=>whnf
   refine⟨_,iM (by omega),?_⟩;conv=>whnf
   refine CU (by show(Nat.ble ((4*i+q)*2+2) (jc J).length&&true)=true;rw[Ny,Bool.and_true];exact Nat.ble_eq_true_of_le (by omega)) ?_;conv=>whnf
   refine⟨_,r7,?_⟩;conv=>whnf
   rw[b2];conv=>whnf
   refine⟨_,eU (by omega),?_⟩;conv=>whnf
   refine CU (by show(Nat.ble (4*i+q+1) (ints n).length&&true)=true;rw[aT,Bool.and_true];exact Nat.ble_eq_true_of_le (by omega)) ?_;conv=>whnf
   cases z6:lt with
   |nil=>
    subst z6;have Dw:ex=0:=by rw[←RG];rfl
    rw[Dw,Int.add_zero] at di;conv=>whnf
    exact hend _ _ rfl rfl rfl rfl (au (by omega)) (by rw[di];exact hrc) (by rw[di];rfl) (by rw[di];rfl) (by rw[di];exact congrArg (fun c=>some (ck.cells c true 0)) Tt) (by rw[di];exact congrArg (fun c=>some (ck.cells c true 0)) Qo)
   |cons a rr=>
    have hne:lt≠[]:=by rw[z6];exact List.cons_ne_nil _ _
    have GU:1≤lt.length:=by rw[z6];simp
    rw[←z6];have z3:=z3 hne;have EX:d%lt.length<lt.length:=Nat.mod_lt _ (by omega);rw[List.getD_eq_getElem?_getD,List.getElem?_eq_getElem EX] at z3;have KB:=gX (l:=lt) (j:=d%lt.length) (k:=kl) EX;have uP:=jG lt[d%lt.length] 20 (by omega) (by omega);rw[show mT lt[d%lt.length] 20=ex from z3.symm] at uP;refine fP (by rw[aT];simp;omega) (fun hc=>?_)
    (try rw[hc])
    conv=>whnf
    refine⟨_,eU (by omega),?_⟩;conv=>whnf
    refine dX (qz rfl Np) ?_;conv=>whnf
    refine⟨_,qk _ _ (by rw[aT];omega),?_⟩;conv=>whnf
    rw[aT];refine⟨_,KB,?_⟩;conv=>whnf
    refine ai uP ?_;conv=>whnf
    rw[b3];conv=>whnf
    refine⟨_,eU (by omega),?_⟩;conv=>whnf
    refine CU (by show(Nat.ble (4*i+q+1) (Heap.splice (ints n) (4*i+q) [.int .i64 (U+t.p)]).length&&true)=true;rw[Qo,aT,List.length_set,Bool.and_true];exact Nat.ble_eq_true_of_le (by omega)) ?_;conv=>whnf
    refine⟨dP (by(conv=>whnf);repeat' (first|exact trivial|exact qz rfl Np|(exact⟨rfl,rfl,.inr ⟨_,_,rfl⟩⟩)|(refine⟨rfl,rfl,.inl ⟨rfl,fun o ho=>?_⟩⟩;cases ho;first|rfl|exact qz rfl Np)|(exact⟨rfl,.inr ⟨_,_,rfl⟩⟩)|(refine⟨rfl,.inl ⟨rfl,fun i o hi ho=>?_⟩⟩;cases hi;cases ho;first|rfl|exact qz rfl Np)|(refine And.intro (fun dI=>(Bool.false_ne_true dI).elim) ?_<;>conv=>whnf)|(refine And.intro (fun _=>?_) ?_<;>conv=>whnf)|(refine And.intro ?_ ?_<;>conv=>whnf))),?_⟩;conv=>whnf
    exact hend _ _ rfl rfl rfl rfl (au (by omega)) (by rw[di];exact hrc) (by rw[di];rfl) (by rw[di];rfl) (by rw[di];exact congrArg (fun c=>some (ck.cells c true 0)) Tt) (by rw[di];exact congrArg (fun c=>some (ck.cells c true 0)) W7)
  ·refine fO (by simpa using hr) (fun hc=>?_)
   (try rw[hc])
   conv=>whnf
   rw[if_neg hr] at di;refine hend _ _ rfl rfl rfl rfl (au (by omega)) (by rw[di];rfl) (by rw[di];rfl) (by rw[di];rfl) (by rw[di];rfl) (by rw[di];rfl)
 ·refine fO (by simpa using hl) (fun hc=>?_)
  (try rw[hc])
  conv=>whnf
  refine⟨_,eU (by omega),?_⟩;conv=>whnf
  refine dX (qz rfl ln) ?_;conv=>whnf
  by_cases hr:nX n (4*i+q)≤U
  ·refine fP (by simpa using hr) (fun hc=>?_)
   (try rw[hc])
   conv=>whnf
   rw[if_pos hr] at di;refine⟨_,r7,?_⟩;conv=>whnf
   rw[b1];conv=>whnf
   refine⟨_,r7,?_⟩;conv=>whnf
   refine⟨_,iM (by omega),?_⟩;conv=>whnf
   refine CU (by show(Nat.ble ((4*i+q)*2+2) (jc J).length&&true)=true;rw[Ny,Bool.and_true];exact Nat.ble_eq_true_of_le (by omega)) ?_;conv=>whnf
   refine⟨_,r7,?_⟩;conv=>whnf
   rw[b2];conv=>whnf
   refine⟨_,eU (by omega),?_⟩;conv=>whnf
   refine CU (by show(Nat.ble (4*i+q+1) (ints n).length&&true)=true;rw[aT,Bool.and_true];exact Nat.ble_eq_true_of_le (by omega)) ?_;conv=>whnf
   cases z6:lt with
   |nil=>
    subst z6;have Dw:ex=0:=by rw[←RG];rfl
    rw[Dw,Int.add_zero] at di;conv=>whnf
    exact hend _ _ rfl rfl rfl rfl (au (by omega)) (by rw[di];exact hrc) (by rw[di];rfl) (by rw[di];rfl) (by rw[di];exact congrArg (fun c=>some (ck.cells c true 0)) Tt) (by rw[di];exact congrArg (fun c=>some (ck.cells c true 0)) Qo)
   |cons a rr=>
    have hne:lt≠[]:=by rw[z6];exact List.cons_ne_nil _ _
    have GU:1≤lt.length:=by rw[z6];simp
    rw[←z6];have z3:=z3 hne;have EX:d%lt.length<lt.length:=Nat.mod_lt _ (by omega);rw[List.getD_eq_getElem?_getD,List.getElem?_eq_getElem EX] at z3;have KB:=gX (l:=lt) (j:=d%lt.length) (k:=kl) EX;have uP:=jG lt[d%lt.length] 20 (by omega) (by omega);rw[show mT lt[d%lt.length] 20=ex from z3.symm] at uP;refine fP (by rw[aT];simp;omega) (fun hc=>?_)
    (try rw[hc])
    conv=>whnf
    refine⟨_,eU (by omega),?_⟩;conv=>whnf
    refine dX (qz rfl Np) ?_;conv=>whnf
    refine⟨_,qk _ _ (by rw[aT];omega),?_⟩;conv=>whnf
    rw[aT];refine⟨_,KB,?_⟩;conv=>whnf
    refine ai uP ?_;conv=>whnf
    rw[b3];conv=>whnf
    refine⟨_,eU (by omega),?_⟩;conv=>whnf
    refine CU (by show(Nat.ble (4*i+q+1) (Heap.splice (ints n) (4*i+q) [.int .i64 (U+t.p)]).length&&true)=true;rw[Qo,aT,List.length_set,Bool.and_true];exact Nat.ble_eq_true_of_le (by omega)) ?_;conv=>whnf
    refine⟨dP (by(conv=>whnf);repeat' (first|exact trivial|exact qz rfl Np|(exact⟨rfl,rfl,.inr ⟨_,_,rfl⟩⟩)|(refine⟨rfl,rfl,.inl ⟨rfl,fun o ho=>?_⟩⟩;cases ho;first|rfl|exact qz rfl Np)|(exact⟨rfl,.inr ⟨_,_,rfl⟩⟩)|(refine⟨rfl,.inl ⟨rfl,fun i o hi ho=>?_⟩⟩;cases hi;cases ho;first|rfl|exact qz rfl Np)|(refine And.intro (fun dI=>(Bool.false_ne_true dI).elim) ?_<;>conv=>whnf)|(refine And.intro (fun _=>?_) ?_<;>conv=>whnf)|(refine And.intro ?_ ?_<;>conv=>whnf))),?_⟩;conv=>whnf
    exact hend _ _ rfl rfl rfl rfl (au (by omega)) (by rw[di];exact hrc) (by rw[di];rfl) (by rw[di];rfl) (by rw[di];exact congrArg (fun c=>some (ck.cells c true 0)) Tt) (by rw[di];exact congrArg (fun c=>some (ck.cells c true 0)) W7)
  ·refine fO (by simpa using hr) (fun hc=>?_)
   (try rw[hc])
   conv=>whnf
   rw[if_neg hr] at di;refine hend _ _ rfl rfl rfl rfl (au (by omega)) (by rw[di];rfl) (by rw[di];rfl) (by rw[di];rfl) (by rw[di];rfl) (by rw[di];rfl)
end Ir
end Go.Proofs.Ytecdcefacdodgaa
set_option maxRecDepth 100000
set_option linter.unusedSimpArgs false
set_option linter.unusedVariables false
namespace Go.Proofs.Ytecdcefacdodgaa
open Go Ads
namespace Ir
open Edf
def Vi(S:List (Int×Int))(i:Nat):List (Nat×AV):=[(0,.ptr 0 0),(2,.int .i64 (de S i)),(3,.int .i64 (i:Nat))]
def Vj(J:List (Int×Int))(f q:Nat):List (Nat×AV):=[(0,.ptr 0 0),(2,.int .i64 (f:Nat)),(4,.int .i64 (dY J (4*f) q)),(5,.int .i64 ((4*f+q:Nat):Int))]
theorem Ff{K kw kl:Nat}{M:List Pt}{w:List Bool}{lt:List Int}{i:Nat}{G:GS}{S:List (Int×Int)}{e1:Env}{h1:Heap}(h_0:Tr.get e1 0=some (.ptr 0 0))(h_2:Tr.get e1 2=some (.int .i64 (de S i)))(h_3:Tr.get e1 3=some (.int .i64 (i:Nat)))
  (g0:h1.get 0=some (.cells (rcs K kw kl M w lt G.d) true 0))(g1:h1.get 1=some (.cells (ints (sL G.s)) true 0))(g2:h1.get 2=some (.cells (ints (sE G.s)) true 0))(g3:h1.get 3=some (.cells (jc G.j) true 0))(g4:h1.get 4=some (.cells (ints G.n) true 0)):GC 8 id e1 h1 (ek 5 (Vi S i)) (RH K kw kl M w lt G):=
 Di id ⟨⟨_,h_0,.ptr (by omega)⟩,⟨_,h_2,.cl rfl⟩,⟨_,h_3,.cl rfl⟩,trivial⟩ (rO g0 g1 g2 g3 g4) (by decide) (by intro b hb;rfl) (by omega)
theorem Fg{K kw kl:Nat}{M:List Pt}{w:List Bool}{lt:List Int}{f q:Nat}{G:GS}{J:List (Int×Int)}{e1:Env}{h1:Heap}(h_0:Tr.get e1 0=some (.ptr 0 0))(h_2:Tr.get e1 2=some (.int .i64 (f:Nat)))(h_4:Tr.get e1 4=some (.int .i64 (dY J (4*f) q)))(h_5:Tr.get e1 5=some (.int .i64 ((4*f+q:Nat):Int)))
  (g0:h1.get 0=some (.cells (rcs K kw kl M w lt G.d) true 0))(g1:h1.get 1=some (.cells (ints (sL G.s)) true 0))(g2:h1.get 2=some (.cells (ints (sE G.s)) true 0))(g3:h1.get 3=some (.cells (jc G.j) true 0))(g4:h1.get 4=some (.cells (ints G.n) true 0)):GC 8 id e1 h1 (ek 5 (Vj J f q)) (RH K kw kl M w lt G):=
 Di id ⟨⟨_,h_0,.ptr (by omega)⟩,⟨_,h_2,.cl rfl⟩,⟨_,h_4,.cl rfl⟩,⟨_,h_5,.cl rfl⟩,trivial⟩ (rO g0 g1 g2 g3 g4) (by decide) (by intro b hb;rfl) (by omega)
theorem GA{α:Type}{l:List α}{o:Nat}{x:α}(h:l[o]?=some x):l.set o x=l:=by
 refine List.ext_getElem? fun i=>?_;rw[List.getElem?_set];split
 ·rename_i he;subst he;rw[h];have:=(List.getElem?_eq_some_iff.1 h).1;simp[this]
 ·rfl
theorem Ov(K kw kl:Nat)(M:List Pt)(w:List Bool)(lt:List Int)(G:GS)(hok:xw M.length G)(ES:M.length≤4)(Sb:∀i,i<M.length→jL G.s i≤1000)(RS:∀i,i<4*M.length→jL G.j i≤1000):
  VD fs ms 20 [.ptr 0 0] (RH K kw kl M w lt G) (fun v h=>v=.cC []∧h=RH K kw kl M w lt (fk M G)):=by
 refine aA (af:=S5) false rfl (Nat.le_of_ble_eq_true rfl) ?_;generalize hQ:(fun(v:AV) (h:Heap)=>v=.cC []∧h=RH K kw kl M w lt (fk M G))=Q;have iC:∀(LF EN JC:List AV),LF=ints (sL (fk M G).s)→EN=ints (sE (fk M G).s)→JC=jc (fk M G).j→Q (.cC []) ⟨8,.node (.node (.node (.node .nil none .nil) (some (.cells JC true 0)) .nil) (some (.cells LF true 0)) (.node .nil none .nil)) (some (.cells (rcs K kw kl M w lt G.d) true 0)) (.node (.node .nil (some (.cells (ints G.n) true 0)) .nil) (some (.cells EN true 0)) (.node .nil none .nil))⟩:=by
  intro LF EN JC h1 h2 h3;subst hQ h1 h2 h3;refine⟨rfl,?_⟩;have hn:(fk M G).n=G.n∧(fk M G).d=G.d:=by
   unfold fk;split<;>exact⟨rfl,rfl⟩
  rw[RH,hn.1,hn.2]
 clear hQ;obtain⟨S,J,n,d⟩:=G;obtain⟨o1,o2,o3⟩:=hok;simp only at o1 o2 o3 Sb RS;have z5:fk M ⟨S,J,n,d⟩=if 0≤de S M.length then⟨lower S (de S M.length),lower J (dY J (4*(de S M.length).toNat) 4),n,d⟩ else⟨S,J,n,d⟩:=rfl;have hpk:=jH S M.length;show lT _ _ fun e=>kX fs ms 8 false false _ e ⟨8,.node (.node (.node (.node .nil none .nil) (some (.cells (jc J) true 0)) .nil) (some (.cells (ints (sL S)) true 0)) (.node .nil none .nil)) (some (.cells [.fz K (pts M),.aq,.fz kw (gG w),.sl 1 0 M.length M.length false,.sl 2 0 M.length M.length false,.sl 3 0 (4*M.length) (4*M.length) false,.sl 4 0 (4*M.length) (4*M.length) false,.int .i64 (d:Nat),.fz kl (ints lt)] true 0)) (.node (.node .nil (some (.cells (ints n) true 0)) .nil) (some (.cells (ints (sE S)) true 0)) (.node .nil none .nil))⟩ _;conv=>whnf
 refine iX (Ff (K:=K) (kw:=kw) (kl:=kl) (M:=M) (w:=w) (lt:=lt) (G:=⟨S,J,n,d⟩) (S:=S) (i:=0) rfl rfl rfl rfl rfl rfl rfl rfl) ?_;refine gk 8 5 M.length (fun _=>True) (Vi S) (fun _=>RH K kw kl M w lt ⟨S,J,n,d⟩) (fun i hi _=>?_) (fun _=>?_) trivial
 ·have ll:=JQ (S:=S) (i:=i) (by omega);have le:=JO (S:=S) (i:=i) (by omega);have Ky:=jH S i;have di:de S (i+1)=if 0<jL S i∧(de S i<0∨jE S i<jE S (de S i).toNat) then((i:Nat):Int) else de S i:=rfl;have V1:∀k,k<S.length→(ints (sE S))[k]?=some (.int .i64 (jE S k)):=fun k hk=>JO hk;have hend:∀(e1:Env) (h1:Heap),Tr.get e1 0=some (.ptr 0 0)→Tr.get e1 2=some (.int .i64 (de S (i+1)))→Tr.get e1 3=some (.int .i64 ((i+1:Nat):Int))→h1.get 0=some (.cells (rcs K kw kl M w lt d) true 0)→h1.get 1=some (.cells (ints (sL S)) true 0)→h1.get 2=some (.cells (ints (sE S)) true 0)→h1.get 3=some (.cells (jc J) true 0)→h1.get 4=some (.cells (ints n) true 0)→
    True∧∃p,GC 8 p e1 h1 (ek 5 (Vi S (i+1))) (RH K kw kl M w lt ⟨S,J,n,d⟩):=fun e1 h1 h_0 h_2 h_3 g0 g1 g2 g3 g4=>⟨trivial,id,Ff h_0 h_2 h_3 g0 g1 g2 g3 g4⟩
  show kX fs ms 8 false false _ (ek 5 [(0,.ptr 0 0),(2,.int .i64 (de S i)),(3,.int .i64 (i:Nat))]) ⟨8,.node (.node (.node (.node .nil none .nil) (some (.cells (jc J) true 0)) .nil) (some (.cells (ints (sL S)) true 0)) (.node .nil none .nil)) (some (.cells [.fz K (pts M),.aq,.fz kw (gG w),.sl 1 0 M.length M.length false,.sl 2 0 M.length M.length false,.sl 3 0 (4*M.length) (4*M.length) false,.sl 4 0 (4*M.length) (4*M.length) false,.int .i64 (d:Nat),.fz kl (ints lt)] true 0)) (.node (.node .nil (some (.cells (ints n) true 0)) .nil) (some (.cells (ints (sE S)) true 0)) (.node .nil none .nil))⟩ _;generalize de S i=pk at*;conv=>whnf
  refine fP (by simp;omega) (fun hc=>?_)
  (try rw[hc])
  conv=>whnf
  refine⟨_,eU (by omega),?_⟩;conv=>whnf
  refine dX (qz rfl ll) ?_;conv=>whnf
  by_cases hl:0<jL S i
  ·refine fP (by simpa using hl) (fun hc=>?_)
   (try rw[hc])
   conv=>whnf
   rcases Ky with⟨h1,-⟩|⟨k,h1,h2,-⟩
   ·refine fP (by simpa using h1) (fun hc=>?_)
    (try rw[hc])
    conv=>whnf
    rw[if_pos ⟨hl,.inl h1⟩] at di;exact hend _ _ rfl (by rw[di];rfl) (au (by omega)) rfl rfl rfl rfl rfl
   ·subst h1;refine⟨_,eU (by omega),?_⟩;conv=>whnf
    refine dX (qz rfl le) ?_;conv=>whnf
    refine⟨_,eU (by omega),?_⟩;conv=>whnf
    refine dX (qz rfl (V1 k (by omega))) ?_;conv=>whnf
    rw[Int.toNat_natCast] at di;by_cases hlt:jE S i<jE S k
    ·refine fP (by simpa using hlt) (fun hc=>?_)
     (try rw[hc])
     conv=>whnf
     rw[if_pos ⟨hl,.inr hlt⟩] at di;exact hend _ _ rfl (by rw[di];rfl) (au (by omega)) rfl rfl rfl rfl rfl
    ·refine fO (by simpa using hlt) (fun hc=>?_)
     (try rw[hc])
     conv=>whnf
     rw[if_neg (fun h=>h.2.elim (fun h=>by omega) hlt)] at di;exact hend _ _ rfl (by rw[di];rfl) (au (by omega)) rfl rfl rfl rfl rfl
  ·refine fO (by simpa using hl) (fun hc=>?_)
   (try rw[hc])
   conv=>whnf
   rw[if_neg (fun h=>hl h.1)] at di;exact hend _ _ rfl (by rw[di];rfl) (au (by omega)) rfl rfl rfl rfl rfl
 ·refine fK (z:=false) ?_;show kX fs ms 8 false false _ (ek 5 [(0,.ptr 0 0),(2,.int .i64 (de S M.length)),(3,.int .i64 (M.length:Nat))]) ⟨8,.node (.node (.node (.node .nil none .nil) (some (.cells (jc J) true 0)) .nil) (some (.cells (ints (sL S)) true 0)) (.node .nil none .nil)) (some (.cells [.fz K (pts M),.aq,.fz kw (gG w),.sl 1 0 M.length M.length false,.sl 2 0 M.length M.length false,.sl 3 0 (4*M.length) (4*M.length) false,.sl 4 0 (4*M.length) (4*M.length) false,.int .i64 (d:Nat),.fz kl (ints lt)] true 0)) (.node (.node .nil (some (.cells (ints n) true 0)) .nil) (some (.cells (ints (sE S)) true 0)) (.node .nil none .nil))⟩ _;rw[z5] at iC;generalize de S M.length=pk at*;conv=>whnf
  refine fO (by simp) (fun hc=>?_)
  (try rw[hc])
  conv=>whnf
  rcases hpk with⟨h1,-⟩|⟨f,h1,h2,hpos,-⟩
  ·refine fP (by simpa using h1) (fun hc=>?_)
   (try rw[hc])
   conv=>whnf
   rw[if_neg (by omega)] at iC;exact iC _ _ _ rfl rfl rfl
  ·subst h1;rw[if_pos (by omega),Int.toNat_natCast] at iC;have CH:=JQ (S:=S) (i:=f) (by omega);have XH:=Sb f h2;have oQ:lower S ((f:Nat):Int)=S.set f (jE S f,jL S f-1):=by rw[lower,if_pos (by omega),Int.toNat_natCast]
   have Wn:=JR (S:=S) (i:=f) (by omega) (jE S f,jL S f-1);have Wm:ints (sE S)=ints (sE (S.set f (jE S f,jL S f-1))):=by
    have h3:=JP (S:=S) (i:=f) (by omega) (jE S f,jL S f-1);rw[←h3,kU _ _ _ (by rw[aT,D2];omega)];exact(GA (JO (by omega))).symm
   have hw1:IntKind.i64.wrap (jL S f-1)=jL S f-1:=IntWalk.i64_in _ (by omega);have a1:IntKind.i64.wrap (4*((f:Nat):Int))=((4*f:Nat):Int):=by rw[IntWalk.i64_in _ (by omega)];omega
   have a2:IntKind.i64.wrap (((4*f:Nat):Int)+4)=((4*f+4:Nat):Int):=by rw[IntWalk.i64_in _ (by omega)];omega
   refine⟨_,eU (by omega),?_⟩;conv=>whnf
   refine dX (qz rfl CH) ?_;conv=>whnf
   rw[hw1];refine⟨_,eU (by omega),?_⟩;conv=>whnf
   refine CU (by show(Nat.ble (f+1) (ints (sL S)).length&&true)=true;rw[aT,D3,Bool.and_true];exact Nat.ble_eq_true_of_le (by omega)) ?_;conv=>whnf
   rw[a1];rw[oQ] at iC;generalize hS':S.set f (jE S f,jL S f-1)=S' at*;have hpo:=lM J (4*f) 4;refine iX (Fg (K:=K) (kw:=kw) (kl:=kl) (M:=M) (w:=w) (lt:=lt) (G:=⟨S',J,n,d⟩) (J:=J) (f:=f) (q:=0) rfl rfl rfl rfl rfl (congrArg (fun c=>some (ck.cells c true 0)) Wn) (congrArg (fun c=>some (ck.cells c true 0)) Wm) rfl rfl) ?_;refine gk 8 5 4 (fun _=>True) (Vj J f) (fun _=>RH K kw kl M w lt ⟨S',J,n,d⟩) (fun q hq _=>?_) (fun _=>?_) trivial
   ·have ll:=Pr (J:=J) (i:=4*f+q) (by omega);have le:=Mj (J:=J) (i:=4*f+q) (by omega);have Ky:=lM J (4*f) q;have di:dY J (4*f) (q+1)=if 0<jL J (4*f+q)∧(dY J (4*f) q<0∨jE J (4*f+q)<jE J (dY J (4*f) q).toNat) then((4*f+q:Nat):Int) else dY J (4*f) q:=rfl;have V1:∀k,k<J.length→(jc J)[k*2+0]?=some (.int .i64 (jE J k)):=fun k hk=>Mj hk;have hend:∀(e1:Env) (h1:Heap),Tr.get e1 0=some (.ptr 0 0)→Tr.get e1 2=some (.int .i64 (f:Nat))→Tr.get e1 4=some (.int .i64 (dY J (4*f) (q+1)))→Tr.get e1 5=some (.int .i64 ((4*f+q+1:Nat):Int))→h1.get 0=some (.cells (rcs K kw kl M w lt d) true 0)→h1.get 1=some (.cells (ints (sL S')) true 0)→h1.get 2=some (.cells (ints (sE S')) true 0)→h1.get 3=some (.cells (jc J) true 0)→h1.get 4=some (.cells (ints n) true 0)→
      True∧∃p,GC 8 p e1 h1 (ek 5 (Vj J f (q+1))) (RH K kw kl M w lt ⟨S',J,n,d⟩):=fun e1 h1 h_0 h_2 h_4 h_5 g0 g1 g2 g3 g4=>⟨trivial,id,Fg h_0 h_2 h_4 h_5 g0 g1 g2 g3 g4⟩
    show kX fs ms 8 false false _ (ek 5 [(0,.ptr 0 0),(2,.int .i64 (f:Nat)),(4,.int .i64 (dY J (4*f) q)),(5,.int .i64 ((4*f+q:Nat):Int))]) ⟨8,.node (.node (.node (.node .nil none .nil) (some (.cells (jc J) true 0)) .nil) (some (.cells (ints (sL S')) true 0)) (.node .nil none .nil)) (some (.cells [.fz K (pts M),.aq,.fz kw (gG w),.sl 1 0 M.length M.length false,.sl 2 0 M.length M.length false,.sl 3 0 (4*M.length) (4*M.length) false,.sl 4 0 (4*M.length) (4*M.length) false,.int .i64 (d:Nat),.fz kl (ints lt)] true 0)) (.node (.node .nil (some (.cells (ints n) true 0)) .nil) (some (.cells (ints (sE S')) true 0)) (.node .nil none .nil))⟩ _;generalize dY J (4*f) q=pk at*;generalize vL:4*f+q=at' at*;have hf4:4*f+4≤4*M.length:=by omega
    conv=>whnf
    rw[a1];conv=>whnf
    rw[a2];conv=>whnf
    refine fP (by simp;omega) (fun hc=>?_)
    (try rw[hc])
    conv=>whnf
    refine⟨_,iM (by omega),?_⟩;conv=>whnf
    refine⟨_,rfl,?_⟩;conv=>whnf
    refine dX (qz rfl ll) ?_;conv=>whnf
    by_cases hl:0<jL J at'
    ·refine fP (by simpa using hl) (fun hc=>?_)
     (try rw[hc])
     conv=>whnf
     rcases Ky with⟨h1,-⟩|⟨k,h1,h2,-⟩
     ·refine fP (by simpa using h1) (fun hc=>?_)
      (try rw[hc])
      conv=>whnf
      rw[if_pos ⟨hl,.inl h1⟩] at di;exact hend _ _ rfl rfl (by rw[di];rfl) (au (by omega)) rfl rfl rfl rfl rfl
     ·subst h1;refine⟨_,iM (by omega),?_⟩;conv=>whnf
      refine⟨_,rfl,?_⟩;conv=>whnf
      refine dX (qz rfl le) ?_;conv=>whnf
      refine⟨_,iM (by omega),?_⟩;conv=>whnf
      refine⟨_,rfl,?_⟩;conv=>whnf
      refine dX (qz rfl (V1 (4*f+k) (by omega))) ?_;conv=>whnf
      rw[Int.toNat_natCast] at di;by_cases hlt:jE J at'<jE J (4*f+k)
      ·refine fP (by simpa using hlt) (fun hc=>?_)
       (try rw[hc])
       conv=>whnf
       rw[if_pos ⟨hl,.inr hlt⟩] at di;exact hend _ _ rfl rfl (by rw[di];rfl) (au (by omega)) rfl rfl rfl rfl rfl
      ·refine fO (by simpa using hlt) (fun hc=>?_)
       (try rw[hc])
       conv=>whnf
       rw[if_neg (fun h=>h.2.elim (fun h=>by omega) hlt)] at di;exact hend _ _ rfl rfl (by rw[di];rfl) (au (by omega)) rfl rfl rfl rfl rfl
    ·refine fO (by simpa using hl) (fun hc=>?_)
     (try rw[hc])
     conv=>whnf
     rw[if_neg (fun h=>hl h.1)] at di;exact hend _ _ rfl rfl (by rw[di];rfl) (au (by omega)) rfl rfl rfl rfl rfl
   ·refine fK (z:=false) ?_;show kX fs ms 8 false false _ (ek 5 [(0,.ptr 0 0),(2,.int .i64 (f:Nat)),(4,.int .i64 (dY J (4*f) 4)),(5,.int .i64 ((4*f+4:Nat):Int))]) ⟨8,.node (.node (.node (.node .nil none .nil) (some (.cells (jc J) true 0)) .nil) (some (.cells (ints (sL S')) true 0)) (.node .nil none .nil)) (some (.cells [.fz K (pts M),.aq,.fz kw (gG w),.sl 1 0 M.length M.length false,.sl 2 0 M.length M.length false,.sl 3 0 (4*M.length) (4*M.length) false,.sl 4 0 (4*M.length) (4*M.length) false,.int .i64 (d:Nat),.fz kl (ints lt)] true 0)) (.node (.node .nil (some (.cells (ints n) true 0)) .nil) (some (.cells (ints (sE S')) true 0)) (.node .nil none .nil))⟩ _;generalize dY J (4*f) 4=pk at*;conv=>whnf
    rw[a1];conv=>whnf
    rw[a2];conv=>whnf
    refine fO (by simp) (fun hc=>?_)
    (try rw[hc])
    conv=>whnf
    rcases hpo with⟨h1,-⟩|⟨k,h1,h2,h3,-⟩
    ·refine fO (by simp;omega) (fun hc=>?_)
     (try rw[hc])
     conv=>whnf
     rw[lower,if_neg (by omega)] at iC;exact iC _ _ _ rfl rfl rfl
    ·subst h1;have XI:=RS (4*f+k) (by omega);rw[lower,if_pos (by omega),Int.toNat_natCast] at iC;have V3:=Pr (J:=J) (i:=4*f+k) (by omega);have hlf:=Mk (J:=J) (i:=4*f+k) (by omega) (jL J (4*f+k)-1);have Qy:IntKind.i64.wrap (jL J (4*f+k)-1)=jL J (4*f+k)-1:=IntWalk.i64_in _ (by omega);have hlen:=vY J;refine⟨_,iM (by omega),?_⟩;conv=>whnf
     refine⟨_,rfl,?_⟩;conv=>whnf
     refine dX (qz rfl V3) ?_;conv=>whnf
     rw[Qy];refine⟨_,iM (by omega),?_⟩;conv=>whnf
     refine⟨_,rfl,?_⟩;conv=>whnf
     refine CU (by show(Nat.ble ((4*f+k)*2+1+1) (jc J).length&&true)=true;rw[hlen,Bool.and_true];exact Nat.ble_eq_true_of_le (by omega)) ?_;conv=>whnf
     exact iC _ _ _ rfl rfl hlf
end Ir
end Go.Proofs.Ytecdcefacdodgaa
set_option maxRecDepth 100000
set_option linter.unusedSimpArgs false
set_option linter.unusedVariables false
namespace Go.Proofs.Ytecdcefacdodgaa
open Go Ads
namespace Ir
open Edf
def U9(u i:Nat):List (Nat×AV):=[(0,.ptr 0 0),(1,.int .i64 (u:Nat)),(5,.int .i64 (i:Nat))]
theorem JM{K kw kl:Nat}{M:List Pt}{w:List Bool}{lt:List Int}{u i:Nat}{G:GS}{e1:Env}{h1:Heap}(h_0:Tr.get e1 0=some (.ptr 0 0))(h_1:Tr.get e1 1=some (.int .i64 (u:Nat)))(h_5:Tr.get e1 5=some (.int .i64 (i:Nat)))
  (g0:h1.get 0=some (.cells (rcs K kw kl M w lt G.d) true 0))(g1:h1.get 1=some (.cells (ints (sL G.s)) true 0))(g2:h1.get 2=some (.cells (ints (sE G.s)) true 0))(g3:h1.get 3=some (.cells (jc G.j) true 0))(g4:h1.get 4=some (.cells (ints G.n) true 0)):GC 8 id e1 h1 (ek 5 (U9 u i)) (RH K kw kl M w lt G):=
 Di id ⟨⟨_,h_0,.ptr (by omega)⟩,⟨_,h_1,.cl rfl⟩,⟨_,h_5,.cl rfl⟩,trivial⟩ (rO g0 g1 g2 g3 g4) (by decide) (by intro b hb;rfl) (by omega)
theorem Hx(K kw kl:Nat)(M:List Pt)(w:List Bool)(lt:List Int)(u:Nat)(G:GS)(hM:∀x,x∈M→Plain x)(hts:∀i,i<M.length→(pA M i).ts.length≤4)(ES:M.length≤4)(hw:w.length=M.length)(hok:xw M.length G)(hu:u<1000)(hd:∀i,i≤M.length→(cj M w lt u G i).d≤100000)(hlt:lt.length<2^62)
  (hno:∀i,i<M.length→xQ w i=true→(((u:Nat):Int)%(pA M i).bV=0→jL G.s i=0)∧∀q,q<(pA M i).ts.length→0<jL G.j (4*i+q)→((u:Nat):Int)<jE G.j (4*i+q)):
  VD fs ms 19 [.ptr 0 0,.int .i64 (u:Nat)] (RH K kw kl M w lt G) (fun v h=>v=.bool true∧h=RH K kw kl M w lt (cj M w lt u G M.length)):=by
 refine aA (af:=S4) false rfl (Nat.le_of_ble_eq_true rfl) ?_;generalize hQ:(fun(v:AV) (h:Heap)=>v=.bool true∧h=RH K kw kl M w lt (cj M w lt u G M.length))=Q;have iC:Q (.bool true) (RH K kw kl M w lt (cj M w lt u G M.length)):=by subst hQ;exact⟨rfl,rfl⟩
 clear hQ;show lT _ _ fun e=>kX fs ms 8 false false _ e ⟨8,.node (.node (.node (.node .nil none .nil) (some (.cells (jc G.j) true 0)) .nil) (some (.cells (ints (sL G.s)) true 0)) (.node .nil none .nil)) (some (.cells (rcs K kw kl M w lt G.d) true 0)) (.node (.node .nil (some (.cells (ints G.n) true 0)) .nil) (some (.cells (ints (sE G.s)) true 0)) (.node .nil none .nil))⟩ _;conv=>whnf
 refine iX (JM (K:=K) (kw:=kw) (kl:=kl) (M:=M) (w:=w) (lt:=lt) (G:=cj M w lt u G 0) (u:=u) (i:=0) rfl rfl rfl rfl rfl rfl rfl rfl) ?_;refine gk 8 5 M.length (fun _=>True) (U9 u) (fun i=>RH K kw kl M w lt (cj M w lt u G i)) (fun i hi _=>?_) (fun _=>?_) trivial
 ·have hno:=hno i hi;have hR:=iH (M:=M) (w:=w) (lt:=lt) (u:=u) hok i;have hs:=(oB (M:=M) (w:=w) (lt:=lt) (u:=u) hok i i (by omega)).2;rw[if_neg (by omega)] at hs;have hj:∀q,q<4→jL (cj M w lt u G i).j (4*i+q)=jL G.j (4*i+q)∧jE (cj M w lt u G i).j (4*i+q)=jE G.j (4*i+q):=by
   intro q hq;obtain⟨h1,h2,-⟩:=oC (M:=M) (w:=w) (lt:=lt) (u:=u) hok hts i q hq i (by omega);rw[if_neg (by omega)] at h1 h2;exact⟨h2,h1⟩
  have di:cj M w lt u G (i+1)=oD M w lt u (cj M w lt u G i) i:=rfl;have VG:=hd i (by omega);have hx:=hM _ (lJ hi);have xK:aB [pA M i]=0:=kS (M:=[pA M i]) (fun x EZ=>by rw[List.mem_singleton] at EZ;rw[EZ];exact hx) (by simp);have ho:=mM xK (x:=pA M i) (by simp);obtain⟨p1,p2,p3,p4⟩:=hx.2.2.1;have r7:=lD (k:=K) hi;have Ma:=I4 (l:=w) (j:=i) (k:=kw) (by omega);have hin:=DE (w:=w) (i:=i) (by omega);have V6:=hts i hi;have hpa:=Fb hi;rw[←hin] at Ma;rw[←hpa] at r7;generalize KC:pA M i=x at*;generalize cj M w lt u G (i+1)=R' at*;generalize cj M w lt u G i=R at*;obtain⟨S,J,n,d⟩:=R;obtain⟨o1,o2,o3⟩:=hR;simp only at o1 o2 o3 hs hj VG;have hend:∀(e1:Env) (h1:Heap),Tr.get e1 0=some (.ptr 0 0)→Tr.get e1 1=some (.int .i64 (u:Nat))→Tr.get e1 5=some (.int .i64 ((i+1:Nat):Int))→h1.get 0=some (.cells (rcs K kw kl M w lt R'.d) true 0)→h1.get 1=some (.cells (ints (sL R'.s)) true 0)→h1.get 2=some (.cells (ints (sE R'.s)) true 0)→h1.get 3=some (.cells (jc R'.j) true 0)→h1.get 4=some (.cells (ints R'.n) true 0)→
    True∧∃p,GC 8 p e1 h1 (ek 5 (U9 u (i+1))) (RH K kw kl M w lt R'):=fun e1 h1 h_0 h_1 h_5 g0 g1 g2 g3 g4=>⟨trivial,id,JM h_0 h_1 h_5 g0 g1 g2 g3 g4⟩
  show kX fs ms 8 false false _ (ek 5 [(0,.ptr 0 0),(1,.int .i64 (u:Nat)),(5,.int .i64 (i:Nat))]) ⟨8,.node (.node (.node (.node .nil none .nil) (some (.cells (jc J) true 0)) .nil) (some (.cells (ints (sL S)) true 0)) (.node .nil none .nil)) (some (.cells [.fz K (pts M),.aq,.fz kw (gG w),.sl 1 0 M.length M.length false,.sl 2 0 M.length M.length false,.sl 3 0 (4*M.length) (4*M.length) false,.sl 4 0 (4*M.length) (4*M.length) false,.int .i64 (d:Nat),.fz kl (ints lt)] true 0)) (.node (.node .nil (some (.cells (ints n) true 0)) .nil) (some (.cells (ints (sE S)) true 0)) (.node .nil none .nil))⟩ _;unfold oD at di;conv=>whnf
  refine fP (by rw[bL];simp;omega) (fun hc=>?_)
  (try rw[hc])
  conv=>whnf
  refine⟨_,r7,?_⟩;conv=>whnf
  refine⟨_,Ma,?_⟩;conv=>whnf
  cases hb:xQ w i with
  |false=>
   rw[hb,if_neg (by decide)] at di;conv=>whnf
   exact hend _ _ rfl rfl (au (by omega)) (by rw[di];rfl) (by rw[di];rfl) (by rw[di];rfl) (by rw[di];rfl) (by rw[di];rfl)
  |true=>
   rw[hb,if_pos rfl] at di;obtain⟨V9,R3⟩:=hno hb;conv=>whnf
   refine⟨_,qk _ _ (by omega),?_⟩;conv=>whnf
   rw[Int.tmod_eq_emod_of_nonneg (show(0:Int)≤((u:Nat):Int) by omega)];by_cases hmod:((u:Nat):Int)%x.bV=0
   ·have hs0:jL S i=0:=hs.trans (V9 hmod);have CH:=JQ (S:=S) (i:=i) (by omega);rw[hs0] at CH;have hw1:IntKind.i64.wrap (((u:Nat):Int)+x.bV)=((u:Nat):Int)+x.bV:=IntWalk.i64_in _ (by omega);have Wn:=JR (S:=S) (i:=i) (by omega) (((u:Nat):Int)+x.bV,x.cE);have Wm:=JP (S:=S) (i:=i) (by omega) (((u:Nat):Int)+x.bV,x.cE);refine fP (by rw[hmod];rfl) (fun hc=>?_)
    (try rw[hc])
    conv=>whnf
    refine⟨_,eU (by omega),?_⟩;conv=>whnf
    refine dX (qz rfl CH) ?_;conv=>whnf
    refine⟨_,eU (by omega),?_⟩;conv=>whnf
    refine CU (by show(Nat.ble (i+1) (ints (sL S)).length&&true)=true;rw[aT,D3,Bool.and_true];exact Nat.ble_eq_true_of_le (by omega)) ?_;conv=>whnf
    rw[hw1];refine⟨_,eU (by omega),?_⟩;conv=>whnf
    refine CU (by show(Nat.ble (i+1) (ints (sE S)).length&&true)=true;rw[aT,D2,Bool.and_true];exact Nat.ble_eq_true_of_le (by omega)) ?_;conv=>whnf
    refine iq [8] (i:=6) (v':=.fp (pt x).cells 0) rfl (.ptr' (by simp) rfl (.clean (show bn (pt x).cells=true by simp[pt,AV.cells,bn,AV.cl,bJ]))) ?_;have Vk:R'=ke M lt u i ⟨S.set i (((u:Nat):Int)+x.bV,x.cE),J,n,d⟩ x.ts.length:=by rw[di,jB,KC,if_pos hmod]
    refine iX (D0 (K:=K) (kw:=kw) (kl:=kl) (M:=M) (w:=w) (lt:=lt) (G:=⟨S.set i (((u:Nat):Int)+x.bV,x.cE),J,n,d⟩) (x:=x) (u:=u) (i:=i) (q:=0) rfl rfl rfl rfl rfl rfl (congrArg (fun c=>some (ck.cells c true 0)) Wn) (congrArg (fun c=>some (ck.cells c true 0)) Wm) rfl rfl) ?_;refine Kg K kw kl M w lt x u i ⟨S.set i (((u:Nat):Int)+x.bV,x.cE),J,n,d⟩ hi KC ES ho ⟨by simpa using o1,o2,o3⟩ hu VG V6 hlt (fun q hq=>by show 0<jL J (4*i+q)→_<jE J (4*i+q);rw[(hj q (by omega)).1,(hj q (by omega)).2];exact R3 q hq) ?_;rw[←Vk];obtain⟨S2,J2,n2,d2⟩:=R';refine fK (z:=false) ?_;show kX fs ms 8 false false _ (ek 5 [(0,.ptr 0 0),(1,.int .i64 (u:Nat)),(5,.int .i64 (i:Nat)),(6,.fp (pt x).cells 0),(7,.int .i64 (x.ts.length:Nat))]) ⟨8,.node (.node (.node (.node .nil none .nil) (some (.cells (jc J2) true 0)) .nil) (some (.cells (ints (sL S2)) true 0)) (.node .nil none .nil)) (some (.cells (rcs K kw kl M w lt d2) true 0)) (.node (.node .nil (some (.cells (ints n2) true 0)) .nil) (some (.cells (ints (sE S2)) true 0)) (.node .nil none .nil))⟩ _;conv=>whnf
    refine fO (by rw[bM];simp) (fun hc=>?_)
    (try rw[hc])
    conv=>whnf
    exact hend _ _ rfl rfl (au (by omega)) rfl rfl rfl rfl rfl
   ·refine fO (by exact beq_eq_false_iff_ne.2 hmod) (fun hc=>?_)
    (try rw[hc])
    conv=>whnf
    refine iq [8] (i:=6) (v':=.fp (pt x).cells 0) rfl (.ptr' (by simp) rfl (.clean (show bn (pt x).cells=true by simp[pt,AV.cells,bn,AV.cl,bJ]))) ?_;have Vk:R'=ke M lt u i ⟨S,J,n,d⟩ x.ts.length:=by rw[di,jB,KC,if_neg hmod]
    refine iX (D0 (K:=K) (kw:=kw) (kl:=kl) (M:=M) (w:=w) (lt:=lt) (G:=⟨S,J,n,d⟩) (x:=x) (u:=u) (i:=i) (q:=0) rfl rfl rfl rfl rfl rfl rfl rfl rfl rfl) ?_;refine Kg K kw kl M w lt x u i ⟨S,J,n,d⟩ hi KC ES ho ⟨o1,o2,o3⟩ hu VG V6 hlt (fun q hq=>by show 0<jL J (4*i+q)→_<jE J (4*i+q);rw[(hj q (by omega)).1,(hj q (by omega)).2];exact R3 q hq) ?_;rw[←Vk];obtain⟨S2,J2,n2,d2⟩:=R';refine fK (z:=false) ?_;show kX fs ms 8 false false _ (ek 5 [(0,.ptr 0 0),(1,.int .i64 (u:Nat)),(5,.int .i64 (i:Nat)),(6,.fp (pt x).cells 0),(7,.int .i64 (x.ts.length:Nat))]) ⟨8,.node (.node (.node (.node .nil none .nil) (some (.cells (jc J2) true 0)) .nil) (some (.cells (ints (sL S2)) true 0)) (.node .nil none .nil)) (some (.cells (rcs K kw kl M w lt d2) true 0)) (.node (.node .nil (some (.cells (ints n2) true 0)) .nil) (some (.cells (ints (sE S2)) true 0)) (.node .nil none .nil))⟩ _;conv=>whnf
    refine fO (by rw[bM];simp) (fun hc=>?_)
    (try rw[hc])
    conv=>whnf
    exact hend _ _ rfl rfl (au (by omega)) rfl rfl rfl rfl rfl
 ·refine fK (z:=false) ?_;generalize cj M w lt u G M.length=R at*;obtain⟨S,J,n,d⟩:=R;show kX fs ms 8 false false _ (ek 5 [(0,.ptr 0 0),(1,.int .i64 (u:Nat)),(5,.int .i64 (M.length:Nat))]) ⟨8,.node (.node (.node (.node .nil none .nil) (some (.cells (jc J) true 0)) .nil) (some (.cells (ints (sL S)) true 0)) (.node .nil none .nil)) (some (.cells [.fz K (pts M),.aq,.fz kw (gG w),.sl 1 0 M.length M.length false,.sl 2 0 M.length M.length false,.sl 3 0 (4*M.length) (4*M.length) false,.sl 4 0 (4*M.length) (4*M.length) false,.int .i64 (d:Nat),.fz kl (ints lt)] true 0)) (.node (.node .nil (some (.cells (ints n) true 0)) .nil) (some (.cells (ints (sE S)) true 0)) (.node .nil none .nil))⟩ _;conv=>whnf
  refine fO (by rw[bL];simp) (fun hc=>?_)
  (try rw[hc])
  conv=>whnf
  exact iC
end Ir
end Go.Proofs.Ytecdcefacdodgaa
set_option maxRecDepth 100000
set_option linter.unusedSimpArgs false
set_option linter.unusedVariables false
namespace Go.Proofs.Ytecdcefacdodgaa
open Go Ads
namespace Ir
open Edf
section
variable {M:List Pt} {w:List Bool} {lt:List Int}
theorem Kf{u i:Nat}{G:GS}:∀q,(ke M lt u i G q).d≤G.d+q
 |0=>Nat.le_refl _
 |q+1=>by
  have:=Kf (u:=u) (i:=i) (G:=G) q;rw[ke,nY];split
  ·show _+1≤_;omega
  ·omega
theorem CS{u:Nat}{G:GS}(hts:∀i,i<M.length→(pA M i).ts.length≤4):∀i,i≤M.length→(cj M w lt u G i).d≤G.d+4*i
 |0,_=>Nat.le_refl _
 |i+1,h=>by
  have h1:=CS (u:=u) (G:=G) hts i (by omega);have h2:=hts i (by omega);rw[cj,oD];split
  ·have h3:=Kf (M:=M) (lt:=lt) (u:=u) (i:=i) (G:=jB M u (cj M w lt u G i) i) (pA M i).ts.length;rw[(Co (M:=M) (u:=u) (i:=i) (G:=cj M w lt u G i)).2.2] at h3;omega
  ·omega
theorem Ng(hts:∀i,i<M.length→(pA M i).ts.length≤4)(ES:M.length≤4):∀u,(fu M w lt u).d≤16*u
 |0=>Nat.le_refl _
 |u+1=>by
  have h1:=CS (w:=w) (lt:=lt) (u:=u) (G:=fu M w lt u) hts M.length (Nat.le_refl _);have h2:=Ng hts ES u;have hg:(fk M (cj M w lt u (fu M w lt u) M.length)).d=(cj M w lt u (fu M w lt u) M.length).d:=by
   unfold fk;split<;>rfl
  show(fk M (cj M w lt u (fu M w lt u) M.length)).d≤_;rw[hg];omega
theorem AT{u:Nat}{G:GS}(hM:∀x,x∈M→Plain x)(hts:∀i,i<M.length→(pA M i).ts.length≤4)(hok:xw M.length G)(h1:∀a,a<M.length→jL G.s a≤1000)(h2:∀a q,a<M.length→q<4→jL G.j (4*a+q)≤1000):
  (∀a,a<M.length→jL (cj M w lt u G M.length).s a≤1000)∧∀a q,a<M.length→q<4→jL (cj M w lt u G M.length).j (4*a+q)≤1000:=by
 constructor
 ·intro a ha;obtain⟨p1,p2,p3,p4⟩:=(hM _ (lJ ha)).2.2.1;rw[(oB (M:=M) (w:=w) (lt:=lt) (u:=u) hok a M.length (Nat.le_refl _)).2];split
  ·omega
  ·exact h1 a ha
 ·intro a q ha hq;have hx:=hM _ (lJ ha);have xK:aB [pA M a]=0:=kS (M:=[pA M a]) (fun x EZ=>by rw[List.mem_singleton] at EZ;rw[EZ];exact hx) (by simp);rw[(oC (M:=M) (w:=w) (lt:=lt) (u:=u) hok hts a q hq M.length (Nat.le_refl _)).2.1];split
  ·rename_i vL;have R8:=vL.2.1.2;obtain⟨o1,o2,o3,o4⟩:=mM xK (x:=pA M a) (by simp) _ (List.getElem_mem R8);rw[tC,Ay R8];omega
  ·exact h2 a q ha hq
theorem Bo(hM:∀x,x∈M→Plain x)(hts:∀i,i<M.length→(pA M i).ts.length≤4):∀u,(∀a,a<M.length→jL (fu M w lt u).s a≤1000)∧∀a q,a<M.length→q<4→jL (fu M w lt u).j (4*a+q)≤1000
 |0=>by
  constructor
  ·intro a ha;show jL (List.replicate M.length (0,0)) a≤1000;rw[uv (by simpa using ha)];simp
  ·intro a q ha hq;show jL (List.replicate (4*M.length) (0,0)) (4*a+q)≤1000;rw[uv (by simp;omega)];simp
 |u+1=>by
  have ih:=Bo hM hts u;obtain⟨b1,b2⟩:=AT (w:=w) (lt:=lt) (u:=u) hM hts (j6 u) ih.1 ih.2;have hok:=iH (M:=M) (w:=w) (lt:=lt) (u:=u) (j6 (M:=M) (w:=w) (lt:=lt) u) M.length;constructor
  ·intro a ha;show jL (fk M (cj M w lt u (fu M w lt u) M.length)).s a≤1000;rw[(Bv hok a).2];have:=b1 a ha;split<;>omega
  ·intro a q ha hq;show jL (fk M (cj M w lt u (fu M w lt u) M.length)).j (4*a+q)≤1000;rw[(Bu hok ha hq).2];have:=b2 a q ha hq;split<;>omega
end
theorem H9{M:List Pt}{w:List Bool}(h:∀x,x∈M→Plain x)(h1:1≤M.length)(h4:M.length≤4)(hw:w.length=M.length):(gn M w).2.2=0∨(gn M w).2.2=5∨(gn M w).2.2=120:=by
 have xJ:dO M w=0:=by rw[dO,if_pos (wz h h1 h4),if_pos hw]
 have O5:=(sI hw M.length (Nat.le_refl _)).1;have hS:∀x,x∈cR M w M.length→Plain x:=fun x hx=>h x (pn hx);unfold gn;rw[xJ,if_neg (by omega)];generalize cR M w M.length=S at*;have hR:=wY (fun x hx=>(hS x hx).2.2.1) (show S.length≤4 by omega);have xK:=kS hS (by omega);by_cases hs:iU S=0
 ·rw[if_neg (by omega)];cases mh:b9 (fun i=>!((cB S ((i:Nat):Int)).2==0)) 0 S.length with
  |none=>exact .inl rfl
  |some u=>
   obtain⟨u1,u2,u3,u4⟩:=dH mh;exact GL xK (i:=u) (by omega)
 ·rw[if_pos hs];refine .inr (.inr ?_);show iU S=120;unfold iU at hs⊢;rw[hR] at hs⊢;simp only[if_true] at hs⊢;split
  ·rfl
  ·rename_i h2;rw[if_neg h2] at hs;exact absurd rfl hs
theorem E6{zs:List AV}{sz bytes n:Nat}(hn:n≤16)(hb:bytes≤1048576):aI (.dj zs sz bytes) [.int .i64 (n:Nat),.int .i64 (n:Nat)]=some (.cells (bR zs n) true 0,fun b=>.sl b 0 n n false):=by
 have hm:bytes*n≤1048576*16:=Nat.mul_le_mul hb hn;have b2:Nat.ble (bytes*n) 140737488355328=true:=Nat.ble_eq_true_of_le (by omega);have b3:Nat.ble n 9223372036854775807=true:=Nat.ble_eq_true_of_le (by omega);have b1:Nat.ble n n=true:=Nat.ble_eq_true_of_le (by omega);show cond (Nat.ble n n&&Nat.ble (bytes*n) 140737488355328&&Nat.ble n 9223372036854775807) (some (ck.cells (bR zs n) true 0,fun b=>AV.sl b 0 n n false)) none=_;rw[b1,b2,b3];rfl
theorem zn:∀n:Nat,bR [.int .i64 0,.int .i64 0] n=jc (List.replicate n (0,0))
 |0=>rfl
 |n+1=>by
  show AV.int .i64 0::AV.int .i64 0::bR [.int .i64 0,.int .i64 0] n=AV.int .i64 0::AV.int .i64 0::jc (List.replicate n (0,0));rw[zn n]
def Rk(u:Nat):List (Nat×AV):=[(13,.ptr 0 0),(14,.int .i64 (u:Nat))]
theorem PV{K kw kl:Nat}{M:List Pt}{w:List Bool}{lt:List Int}{u:Nat}{G:GS}{e1:Env}{h1:Heap}(h_13:Tr.get e1 13=some (.ptr 0 0))(h_14:Tr.get e1 14=some (.int .i64 (u:Nat)))
  (g0:h1.get 0=some (.cells (rcs K kw kl M w lt G.d) true 0))(g1:h1.get 1=some (.cells (ints (sL G.s)) true 0))(g2:h1.get 2=some (.cells (ints (sE G.s)) true 0))(g3:h1.get 3=some (.cells (jc G.j) true 0))(g4:h1.get 4=some (.cells (ints G.n) true 0)):GC 0 id e1 h1 (ek 5 (Rk u)) (RH K kw kl M w lt G):=
 Di id ⟨⟨_,h_13,.ptr (by omega)⟩,⟨_,h_14,.cl rfl⟩,trivial⟩ (rO g0 g1 g2 g3 g4) (by decide) (by intro b hb;rfl) (by omega)
def rc0(K kw kl:Nat)(M:List Pt)(w:List Bool)(lt:List Int):List AV:=
 [.fz K (pts M),.aq,.fz kw (gG w),.sl 0 0 M.length M.length false,.sl 1 0 M.length M.length false,.sl 2 0 (4*M.length) (4*M.length) false,.sl 3 0 (4*M.length) (4*M.length) false,.int .i64 ((0:Nat):Int),.fz kl (ints lt)]
def WI(b:Nat):Nat:=bif Nat.beq b 0 then 4 else bif Nat.beq b 1 then 0 else bif Nat.beq b 2 then 1 else bif Nat.beq b 3 then 2 else bif Nat.beq b 4 then 3 else b
theorem MI{K kw kl:Nat}{M:List Pt}{w:List Bool}{lt:List Int}:jg WI 8 (.cells (rcs K kw kl M w lt 0) true 0) (.cells (rc0 K kw kl M w lt) true 0):=by
 refine .cells rfl fun a x y hx hy=>?_;have OI:=aS M;have OJ:=lg w;have OK:=aE lt
 match a,hx,hy with
 |0,hx,hy=>cases hx;cases hy;exact .cl (by simp[AV.cl,OI])
 |1,hx,hy=>cases hx;cases hy;exact .cl rfl
 |2,hx,hy=>cases hx;cases hy;exact .cl (by simp[AV.cl,OJ])
 |3,hx,hy=>cases hx;cases hy;exact .sl (b:=1) (by omega)
 |4,hx,hy=>cases hx;cases hy;exact .sl (b:=2) (by omega)
 |5,hx,hy=>cases hx;cases hy;exact .sl (b:=3) (by omega)
 |6,hx,hy=>cases hx;cases hy;exact .sl (b:=4) (by omega)
 |7,hx,hy=>cases hx;cases hy;exact .cl rfl
 |8,hx,hy=>cases hx;cases hy;exact .cl (by simp[AV.cl,OK])
theorem Bq(k:Nat)(l:List Pt)(n:Int)(kl:Nat)(lt:List Int)(hs:Small l)(hlt:lt.length<2^62):PC fs ms 4 [.fz k (pts l),.int .i64 n,.fz kl (ints lt)] (.bool true):=by
 refine bq (by simp[bn,AV.cl,aS,aE]) rfl ?_;refine iZ (af:=C4) rfl (Nat.le_of_ble_eq_true rfl) ?_;generalize hQ:(fun(v:AV) (_:Heap)=>v=.bool true)=Q;have hM:=uw (l:=l);have ES:(cT l).length≤4:=by simp[cT];omega
 have W6:∀x,x∈cT l→x.ts.length≤3:=fun x hx=>by obtain⟨y,rfl⟩:=tM hx;exact(Ab y).2.2.2.2
 have Oy:Small (cT l):=⟨by omega,fun x hx=>by have:=W6 x hx;omega⟩;have IB:=BY k l hs;generalize cT l=M at*;generalize eM M.length=K at*;have GX:=Int.emod_nonneg n (show(16:Int)≠0 by omega);have hn2:=Int.emod_lt_of_pos n (show(0:Int)<16 by omega);have rL:=jG n 16 (by omega) (by omega);rw[show mT n 16=n%16 from rfl] at rL;generalize n%16=a at*;have BN:=NT K M a Oy (by omega);have G0:=xo a M.length;generalize lX a M.length=w at*;generalize hKw:eM M.length=kw at*;have hgt:=lu K kw M w Oy;conv=>whnf
 refine iY false ?_;conv=>whnf
 refine iY false ?_;conv=>whnf
 refine ai (qw) ?_;conv=>whnf
 refine iY false ?_;conv=>whnf
 refine ai (v:=.agg [.fz K (pts M),.aq]) IB ?_;conv=>whnf
 refine iq [0] (i:=7) (v':=.fp [.fz K (pts M),.aq] 0) rfl (.ptr' (by simp) rfl (.clean (show bn [.fz K (pts M),.aq]=true by simp[bn,AV.cl,aS]))) ?_;refine dy 5 [(1,.int .i64 n),(2,.fz kl (ints lt)),(7,.fp [.fz K (pts M),.aq] 0)] ?_ ?_
 ·exact⟨⟨_,rfl,.cl rfl⟩,⟨_,rfl,.cl (by simp[AV.cl,aE])⟩,⟨_,rfl,.cl (by simp[AV.cl,bn,aS])⟩,trivial⟩
 refine bg (z:=false) ?_;conv=>whnf
 rw[bL];by_cases h0:M.length=0
 ·refine fP (by rw[h0];rfl) (fun hc=>?_)
  (try rw[hc])
  conv=>whnf
  subst hQ;rfl
 refine fO (by exact beq_eq_false_iff_ne.2 (by omega)) (fun hc=>?_)
 (try rw[hc])
 conv=>whnf
 have Sd:=H9 hM (by omega) ES G0;have F6:=nH hM (by omega) ES G0;have hts:∀i,i<M.length→(pA M i).ts.length≤4:=fun i hi=>by have:=W6 _ (lJ hi);omega
 have hkeep:=fun(h1:fq (cR M w M.length)≤2520) (h2:∀x,x∈cR M w M.length→(cB [x] 0).2=0)=>Dh (lt:=lt) hM hts G0 h1 h2;generalize gn M w=q at*;obtain⟨q1,q2,q3⟩:=q;simp only at Sd F6;refine ai (rL) ?_;conv=>whnf
 refine ai (BN) ?_;conv=>whnf
 refine⟨dP (by(conv=>whnf);repeat' (first|exact trivial|(exact⟨rfl,rfl,.inr ⟨_,_,rfl⟩⟩)|(refine⟨rfl,rfl,.inl ⟨rfl,fun o ho=>?_⟩⟩;cases ho;first|rfl)|(exact⟨rfl,.inr ⟨_,_,rfl⟩⟩)|(refine⟨rfl,.inl ⟨rfl,fun i o hi ho=>?_⟩⟩;cases hi;cases ho;first|rfl)|(refine And.intro (fun dI=>(Bool.false_ne_true dI).elim) ?_<;>conv=>whnf)|(refine And.intro (fun _=>?_) ?_<;>conv=>whnf)|(refine And.intro ?_ ?_<;>conv=>whnf))),?_⟩;conv=>whnf
 refine ai (v:=.cC [.int .i64 q1,.int .i64 q2,.int .i64 q3]) hgt ?_;conv=>whnf
 rcases Sd with rfl|rfl|rfl
 case inr.inl=>
  conv=>whnf
  subst hQ;rfl
 case inr.inr=>
  conv=>whnf
  subst hQ;rfl
 obtain⟨xN,IY⟩:=F6.1 rfl;have hkeep:=hkeep xN IY;have a1:IntKind.i64.wrap (4*((M.length:Nat):Int))=((4*M.length:Nat):Int):=by rw[IntWalk.i64_in _ (by omega)];omega
 conv=>whnf
 rw[bL];refine⟨_,_,E6 (by omega) (by omega),?_⟩;conv=>whnf
 refine⟨_,_,E6 (by omega) (by omega),?_⟩;conv=>whnf
 rw[a1];refine⟨_,_,E6 (by omega) (by omega),?_⟩;conv=>whnf
 rw[a1];refine⟨_,_,E6 (by omega) (by omega),?_⟩;conv=>whnf
 have z1:bR [.int .i64 0] M.length=ints (sL (fu M w lt 0).s):=by
  show _=ints (sL (List.replicate M.length (0,0)));rw[nZ,sL,List.map_replicate]
 have z2:bR [.int .i64 0] M.length=ints (sE (fu M w lt 0).s):=by
  show _=ints (sE (List.replicate M.length (0,0)));rw[nZ,sE,List.map_replicate]
 refine iX (e':=ek 5 (Rk 0)) (h':=RH K kw kl M w lt (fu M w lt 0)) (p:=WI) (Di WI ⟨⟨_,rfl,.ptr (b:=0) (by omega)⟩,⟨_,rfl,.cl rfl⟩,trivial⟩ (vm (bf ⟨_,rfl,MI⟩) (bf ⟨_,rfl,aX z1 (aE _)⟩) (bf ⟨_,rfl,aX z2 (aE _)⟩) (bf ⟨_,rfl,aX (zn _) (NF _)⟩) (bf ⟨_,rfl,aX (nZ _) (aE _)⟩) aZ aZ aZ) (by decide) (by intro b hb;omega) (by omega)) ?_;refine gk 0 5 500 (fun _=>True) Rk (fun u=>RH K kw kl M w lt (fu M w lt u)) (fun u hu _=>?_) (fun _=>?_) trivial
 ·have hok:=j6 (M:=M) (w:=w) (lt:=lt) u;have Vv:=iH (M:=M) (w:=w) (lt:=lt) (u:=u) hok M.length;have hdd:∀i,i≤M.length→(cj M w lt u (fu M w lt u) i).d≤100000:=fun i hi=>by
   have h1:=CS (w:=w) (lt:=lt) (u:=u) (G:=fu M w lt u) hts i hi;have h2:=Ng (w:=w) (lt:=lt) hts ES u;omega
  have Nm:=Bo (w:=w) (lt:=lt) hM hts u;obtain⟨b1,b2⟩:=AT (w:=w) (lt:=lt) (u:=u) hM hts hok Nm.1 Nm.2;have hb:=Hx K kw kl M w lt u (fu M w lt u) hM hts ES G0 hok (by omega) hdd hlt (fun i hi hin=>hkeep u (by omega) i hi hin);have hg:=Ov K kw kl M w lt (cj M w lt u (fu M w lt u) M.length) Vv ES b1 (fun a ha=>by
   have:=b2 (a/4) (a%4) (by omega) (by omega)
   rwa [show 4*(a/4)+a%4=a by omega] at this)
  have di:fk M (cj M w lt u (fu M w lt u) M.length)=fu M w lt (u+1):=rfl;rw[di] at hg;obtain⟨U,hU⟩:∃U:Int,((u:Nat):Int)=U:=⟨_,rfl⟩;have hU5:U<500:=by omega
  rw[hU] at hb;have hE:Rk u=[(13,.ptr 0 0),(14,.int .i64 U)]:=by rw[←hU];rfl
  rw[hE];conv=>whnf
  refine fP (decide_eq_true hU5) (fun hc=>?_)
  (try rw[hc])
  conv=>whnf
  refine VD.mono hb fun v h hv=>?_;obtain⟨rfl,rfl⟩:=hv;conv=>whnf
  refine VD.mono hg fun v h hv=>?_;obtain⟨rfl,rfl⟩:=hv;conv=>whnf
  exact⟨trivial,id,PV rfl (by rw[←hU];exact au (by omega)) rfl rfl rfl rfl rfl⟩
 ·refine fK (z:=false) ?_;generalize fu M w lt 500=G at*;obtain⟨U,hU⟩:∃U:Int,((500:Nat):Int)=U:=⟨_,rfl⟩;have hE:Rk 500=[(13,.ptr 0 0),(14,.int .i64 U)]:=by rw[←hU];rfl
  rw[hE];conv=>whnf
  refine fO (decide_eq_false (by omega)) (fun hc=>?_)
  (try rw[hc])
  conv=>whnf
  subst hQ;rfl
end Ir
end Go.Proofs.Ytecdcefacdodgaa
