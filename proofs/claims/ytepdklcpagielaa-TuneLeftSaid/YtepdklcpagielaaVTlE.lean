/-
  Tune: what is written into one copy changes no other. The contract of TuneLeft.
-/
import Derived.Test.YtepdklcpagielaaVTlD
import Derived.Test.YtepdklcpagielaaVTlW
set_option maxRecDepth 100000
set_option linter.unusedSimpArgs false
set_option linter.unusedVariables false
namespace Go.Proofs.Ytepdklcpagielaa
open Go Ads
namespace Ir
theorem XW.JT{h:Heap}{b n:Nat}{L:List Pt}{bs:List Int}(X:XW h b L bs n)(hn:L.length=n)(hb:bs.length=n):jo (fun _=>True) h (.sl b 0 n n true) (.fz 0 (pts (wL L bs))):=by
 obtain⟨C,g,cl,cells⟩:=X.ex;have Zj:=C9 (L:=L) (bs:=bs) (by omega);refine .sl (vs:=C) (wr:=true) (es:=3) (s:=3) trivial g (fE _) (by rw[bh];omega) (by rw[bh];omega) (Nat.le_refl _) (by omega) (fun h=>by omega) (fun h=>by omega) ?_;intro i x j c y hx hc hy;rw[pts,List.getElem?_map] at hx;have hi:i<(wL L bs).length:=by
  rcases Nat.lt_or_ge i (wL L bs).length with h|h
  ·exact h
  ·rw[List.getElem?_eq_none h] at hx;cases hx
 rw[List.getElem?_eq_getElem hi,GX i hi (by omega) (by omega)] at hx;cases hx
 rw[Nat.zero_add] at hy;obtain⟨c0,c1,_⟩:=cells i (by omega);obtain⟨c2,tv,c3,t⟩:=c1 (by omega);have hgd:bs.getD i 0=bs[i]'(by omega):=by rw[List.getD_eq_getElem?_getD,List.getElem?_eq_getElem (by omega)];rfl
 match j,hc,hy with
 |0,hc,hy=>
  cases hc
  rw[Nat.add_zero,c0] at hy;cases hy
  exact .clean rfl
 |1,hc,hy=>
  cases hc
  rw[c2,hgd] at hy;cases hy
  exact .clean rfl
 |2,hc,hy=>
  cases hc
  rw[c3] at hy;obtain rfl:tv=y:=by simpa using hy
  show jo _ h tv (.fz (gv (L[i]'(by omega)).ts.length) (dI (L[i]'(by omega)).ts));generalize(L[i]'(by omega)).ts=ts at*;rcases t with⟨rfl,rfl⟩|⟨hne,d,rfl,_,_,gd⟩
  ·exact .aD
  ·cases ts with
   |nil=>exact absurd rfl hne
   |cons t0 tr=>exact gW (s:=8) trivial gd rfl (iX _) (by rw[bM]) (cq _)
 |j+3,hc,hy=>simp[pt,AV.cells] at hc
def SV(h:Heap)(b:Nat)(tv:AV)(m:Nat):Prop:=(m=0∧tv=.aD)∨∃c vs,tv=.sl c 0 m m true∧c≠b∧h.get c=some (.cells vs true 8)∧vs.length=m*8
def SX(h:Heap)(b n:Nat):Prop:=∃C,h.get b=some (.cells C true 3)∧C.length=n*3∧∀i,i<n→∃tv m,C[i*3+2]?=some tv∧m≤6∧SV h b tv m
theorem XW.shape{h:Heap}{b n:Nat}{L:List Pt}{bs:List Int}(X:XW h b L bs n)(hn:L.length=n)(h6:∀x∈L,x.ts.length≤6):SX h b n:=by
 obtain⟨C,g,cl,cells⟩:=X.ex;refine⟨C,g,by omega,fun i hi=>?_⟩;obtain⟨c0,c1,_⟩:=cells i (by omega);obtain⟨c2,tv,c3,t⟩:=c1 (by omega);refine⟨tv,_,c3,h6 _ (List.getElem_mem (show i<L.length by omega)),?_⟩;rcases t with⟨e,rfl⟩|⟨hne,d,rfl,h1,_,gd⟩
 ·exact .inl ⟨by rw[e];rfl,rfl⟩
 ·exact .inr ⟨d,_,rfl,h1,gd,by rw[c9 (iX _),bM]⟩
theorem SX.set{h:Heap}{b n c:Nat}{vs vs':List AV}(X:SX h b n)(hc:c≠b)(g:h.get c=some (.cells vs true 8))(hl:vs'.length=vs.length):SX (h.set c (.cells vs' true 8)) b n:=by
 obtain⟨C,gC,cl,hX⟩:=X;refine⟨C,by rw[bB (Ne.symm hc)];exact gC,cl,fun i hi=>?_⟩;obtain⟨tv,m,h1,h2,h3⟩:=hX i hi;refine⟨tv,m,h1,h2,?_⟩;rcases h3 with h3|⟨d,us,e1,e2,e3,e4⟩
 ·exact .inl h3
 ·by_cases e:d=c
  ·subst e;rw[g] at e3;cases e3
   exact .inr ⟨d,vs',e1,e2,aG,by omega⟩
  ·exact .inr ⟨d,us,e1,e2,by rw[bB e];exact e3,e4⟩
def UE(kk n b i:Nat)(L:List Pt):List (Nat×AV):=[(5,.fz kk (pts L)),(6,.fz kk (pts L)),(13,.sl b 0 n n true),(17,.int .i64 ((i:Nat):Int))]
theorem Xl{kk n b i:Nat}{L:List Pt}(hi:i<n){B:Nat}{Q:AX→Env→Heap→Prop}(hQ:∀e' h',SX h' b n→aP e' (UE kk n b i L)→Q (.exit 2) e' h'):
  ∀(k j:Nat) (h:Heap) (env:Env),6-j=k→j≤6→SX h b n→aP env (UE kk n b i L++[(18,.int .i64 ((j:Nat):Int))])→
  VC fs ms B false (.loop gR) env h Q:=by
 intro k;induction k using Nat.strongRecOn with
 |ind k ih=>
 intro j h env hk hj X cH;obtain⟨C,gC,cl,hX⟩:=id X;obtain⟨tv,m,h1,h2,h3⟩:=hX i hi;refine ak 5 _ cH ?_;refine lU (z:=true) ?_;unfold UE;conv=>whnf
 refine⟨_,l9 hi,?_⟩;conv=>whnf
 refine⟨_,bA gC h1,?_⟩;conv=>whnf
 rcases h3 with⟨rfl,rfl⟩|⟨c,vs,rfl,e2,e3,e4⟩
 ·conv=>whnf
  exact hQ _ _ X (by repeat' (first|exact trivial|refine And.intro (by first|with_reducible_and_instances rfl|(refine Eq.trans (b:=some (AV.int .i64 _)) rfl (congrArg (fun z=>some (AV.int .i64 z)) ?_);first|omega|(simp(disch:=omega) only[IntWalk.i64_in]<;>omega))|rfl) ?_))
 ·conv=>whnf
  refine br (fun hc=>?_) (fun hc=>?_)<;>(try rw[hc])<;>(conv=>whnf)
  ·have hlt:j<m:=by have:=of_decide_eq_true hc;omega
   refine⟨_,l9 hi,?_⟩;conv=>whnf
   refine⟨_,bA gC h1,?_⟩;conv=>whnf
   refine⟨_,l9 hlt,?_⟩;conv=>whnf
   refine aT (cD (n:=1) (v:=.int .i64 99) e3 rfl (by omega) rfl) fun h5 e5=>?_;conv=>whnf
   rw[show Heap.splice vs (j*8+2) (AV.int .i64 99).cells=vs.set (j*8+2) (.int .i64 99) from nu _ _ _ (by omega)] at e5;exact ih (6-(j+1)) (by omega) (j+1) h5 _ rfl (by omega) (by rw[e5];exact X.set e2 e3 (by rw[List.length_set])) (by repeat' (first|exact trivial|refine And.intro (by first|with_reducible_and_instances rfl|(refine Eq.trans (b:=some (AV.int .i64 _)) rfl (congrArg (fun z=>some (AV.int .i64 z)) ?_);first|omega|(simp(disch:=omega) only[IntWalk.i64_in]<;>omega))|rfl) ?_))
  ·exact hQ _ _ X (by repeat' (first|exact trivial|refine And.intro (by first|with_reducible_and_instances rfl|(refine Eq.trans (b:=some (AV.int .i64 _)) rfl (congrArg (fun z=>some (AV.int .i64 z)) ?_);first|omega|(simp(disch:=omega) only[IntWalk.i64_in]<;>omega))|rfl) ?_))
theorem Xk{kk n b:Nat}{L:List Pt}(hn:n≤900){B:Nat}{Q:AX→Env→Heap→Prop}(hQ:∀e' h',aP e' [(5,.fz kk (pts L)),(6,.fz kk (pts L))]→Q (.exit 0) e' h'):
  ∀(k i:Nat) (h:Heap) (env:Env),n-i=k→i≤n→SX h b n→aP env (UE kk n b i L)→
  VC fs ms B false (.loop gQ) env h Q:=by
 intro k;induction k using Nat.strongRecOn with
 |ind k ih=>
 intro i h env hk hi X cH;refine ak 5 _ cH ?_;refine bJ (aj true ?_);unfold UE;conv=>whnf
 refine br (fun hc=>?_) (fun hc=>?_)<;>(try rw[hc])<;>(conv=>whnf)
 ·have hlt:i<n:=by have:=of_decide_eq_true hc;omega
  refine az (aL (aj true ?_));conv=>whnf
  refine aL ?_;refine Xl (kk:=kk) (L:=L) hlt ?_ _ 0 h _ rfl (by omega) X (by repeat' (first|exact trivial|refine And.intro (by first|with_reducible_and_instances rfl|(refine Eq.trans (b:=some (AV.int .i64 _)) rfl (congrArg (fun z=>some (AV.int .i64 z)) ?_);first|omega|(simp(disch:=omega) only[IntWalk.i64_in]<;>omega))|rfl) ?_));intro e1 h1 X1 vL;show VC fs ms _ _ _ _ _ _;refine ak 5 _ vL (aa (z:=true) ?_);unfold UE;conv=>whnf
  exact ih (n-(i+1)) (by omega) (i+1) h1 _ rfl (by omega) X1 (by repeat' (first|exact trivial|refine And.intro (by first|with_reducible_and_instances rfl|(refine Eq.trans (b:=some (AV.int .i64 _)) rfl (congrArg (fun z=>some (AV.int .i64 z)) ?_);first|omega|(simp(disch:=omega) only[IntWalk.i64_in]<;>omega))|rfl) ?_))
 ·exact hQ _ _ (by repeat' (first|exact trivial|refine And.intro (by first|with_reducible_and_instances rfl|(refine Eq.trans (b:=some (AV.int .i64 _)) rfl (congrArg (fun z=>some (AV.int .i64 z)) ?_);first|omega|(simp(disch:=omega) only[IntWalk.i64_in]<;>omega))|rfl) ?_))
theorem GJ(k:Nat)(l:List Int)(n:Nat)(hn:n≤l.length):pV (.slice 1 false true false) [.fz k (ints l),.int .i64 ((n:Nat):Int)]=some (.fz (cV k false n l.length l.length) (ints (l.take n))):=by
 have hb:bounds (ints l).length (ints l).length false true false [.int .i64 (n:Nat)]=some (0,n,(ints l).length):=by
  show cond (Nat.ble 0 n&&Nat.ble n (ints l).length&&Nat.ble (ints l).length (ints l).length) _ _=_;rw[Nat.ble_eq_true_of_le (Nat.zero_le n),Nat.ble_eq_true_of_le (by rw[cu];exact hn),Nat.ble_eq_true_of_le (Nat.le_refl _)];rfl
 show lG 1 false true false k (ints l) [.int .i64 (n:Nat)]=_;rw[lG,hb];simp only[show Nat.beq 0 0=true from rfl,Bool.not_true,Bool.and_false,cond_false,lF,cond_true,List.drop_zero,Nat.sub_zero,cu];rw[show(ints l).take n=ints (l.take n) by simp[ints,List.map_take]]
theorem DO(L:List Pt):ZH L L:=⟨rfl,fun i h h'=>⟨rfl,rfl,rfl⟩⟩
theorem QD{h:Heap}{k kb:Nat}{L:List Pt}{bs:List Int}(hne:L.length≠bs.length){Q:AV→Heap→Prop}(hQ:Q (.cQ [.aD,.int .i64 2]) h):VD fs ms 31 [.fz k (pts L),.fz kb (ints bs)] h Q:=by
 refine aC (af:=Ue) true rfl (Nat.le_of_ble_eq_true rfl) ?_;conv=>whnf
 rw[bh,cu];rw[show(((L.length:Nat):Int)!=((bs.length:Nat):Int))=true by simp;omega];conv=>whnf
 exact hQ
theorem MH{h:Heap}{k kb:Nat}{L:List Pt}{bs:List Int}(hne:L.length≠bs.length){Q:AV→Heap→Prop}(hQ:Q (.cQ [.aD,.int .i64 2]) h):VD fs ms 32 [.fz k (pts L),.fz kb (ints bs)] h Q:=by
 refine aC (af:=UH) true rfl (Nat.le_of_ble_eq_true rfl) ?_;conv=>whnf
 rw[bh,cu];rw[show(((L.length:Nat):Int)!=((bs.length:Nat):Int))=true by simp;omega];conv=>whnf
 exact hQ
theorem QB{h:Heap}{kb:Nat}{Q:AV→Heap→Prop}(hQ:∀h',Fr h h' []→Q (.cQ [.aD,.int .i64 0]) h'):VD fs ms 31 [.fz 3 (pts []),.fz kb (ints [])] h Q:=by
 refine bw (af:=Ue) rfl (Nat.le_of_ble_eq_true rfl) ?_;conv=>whnf
 refine aj true ?_;conv=>whnf
 refine aj true ?_;conv=>whnf
 refine aj true ?_;conv=>whnf
 refine aC (af:=Uf) true rfl (Nat.le_of_ble_eq_true rfl) ?_;conv=>whnf
 refine az (aj true ?_);conv=>whnf
 refine aL (lU (z:=true) ?_);conv=>whnf
 refine aa (z:=true) ?_;conv=>whnf
 exact hQ h (Fr.refl _ _)
def XY(h:Heap)(x y:AV)(n:Nat):Prop:=(∃A k k',jo (fun _=>True) h x (.fz k (pts A))∧jo (fun _=>True) h y (.fz k' (pts A))∧A.length≤6∧∀a∈A,a.ts.length≤6)∧((n=0∧x=.aD)∨∃b,x=.sl b 0 n n true∧SX h b n)
theorem RC{h:Heap}{kk kb:Nat}{L:List Pt}{bs:List Int}(hkk:kk=gv L.length)(hK:AU L)(h6:L.length≤6)(ht:∀x∈L,x.ts.length≤6):∃e:Int,∀{Q:AV→Heap→Prop},
  (∀h1 x,(∀{Q2:AV→Heap→Prop},(∀h2 y n,n≤6→XY h2 x y n→Q2 (.cQ [y,.int .i64 e]) h2)→VD fs ms 32 [.fz kk (pts L),.fz kb (ints bs)] h1 Q2)→Q (.cQ [x,.int .i64 e]) h1)→VD fs ms 31 [.fz kk (pts L),.fz kb (ints bs)] h Q:=by
 by_cases hne:L.length=bs.length
 ·cases L with
  |nil=>
   have JX:bs=[]:=List.eq_nil_of_length_eq_zero (by rw[←hne];rfl);subst JX;subst hkk;refine⟨0,fun{Q} hQ=>QB fun h1 _=>hQ h1 .aD fun{Q2} h2=>HT hK rfl (by simp) fun h3 y hy _=>?_⟩;rcases hy with⟨_,rfl⟩|⟨b,_,_,rfl,gb⟩
   ·exact h2 h3 .aD 0 (by omega) ⟨⟨[],3,3,.aD,.aD,by simp,by simp⟩,.inl ⟨rfl,rfl⟩⟩
   ·exact h2 h3 _ 0 (by omega) ⟨⟨[],3,0,.aD,gW (s:=3) trivial gb rfl rfl rfl rfl,by simp,by simp⟩,.inl ⟨rfl,rfl⟩⟩
  |cons p0 L'=>
   have hn:(p0::L').length=L'.length+1:=rfl;subst hkk;generalize hLg:p0::L'=L at*;generalize L'.length=n at*;rw[hn];refine⟨0,fun{Q} hQ=>QC hK hn (by omega) (by omega) fun h1 b X hb0 cT=>hQ h1 _ fun{Q2} h2=>HT hK (by omega) (by omega) fun h3 y hy iB=>?_⟩;have X3:XW h3 b L bs (n+1):=by
    obtain⟨C,g,cl,cells⟩:=X.ex;refine⟨Nat.lt_of_lt_of_le X.lb iB.next,C,by rw[iB.keep b X.lb (by simp)];exact g,cl,fun i hi=>?_⟩;obtain⟨c0,c1,c2⟩:=cells i hi;refine⟨c0,fun hij=>?_,c2⟩;obtain⟨d1,tv,d2,d3⟩:=c1 hij;exact⟨d1,tv,d2,d3.keep iB (by simp)⟩
   obtain⟨k',fy⟩:=hy.JT;have Zj:=C9 (L:=L) (bs:=bs) (by omega);refine h2 h3 y (n+1) (by omega) ⟨⟨wL L bs,0,k',X3.JT hn (by omega),fy,by omega,fun a ha=>?_⟩,.inr ⟨b,rfl,X3.shape hn ht⟩⟩;obtain⟨i,hi,rfl⟩:=List.getElem_of_mem ha;rw[GX i hi (by omega) (by omega)];exact ht L[i] (List.getElem_mem (show i<L.length by omega))
 ·exact⟨2,fun{Q} hQ=>QD hne (hQ h .aD fun{Q2} h2=>MH hne (h2 h .aD 0 (by omega) ⟨⟨[],3,3,.aD,.aD,by simp,by simp⟩,.inl ⟨rfl,rfl⟩⟩))⟩
theorem GQ(k0 kb:Nat)(l0:List Pt)(hs0:Small l0)(b0:List Int)(hb0:b0.length<2^60):PC fs ms 8 [.fz k0 (pts l0),.fz kb (ints b0)] (.bool true):=by
 refine aX (by simp[bL,AV.cl,bz,aS]) rfl ?_;generalize hK:(fun(u:AV) (_:Heap)=>u=.bool true)=K;have QW:∀h,K (.bool true) h:=fun h=>by subst hK;rfl
 clear hK;generalize(⟨0,.nil⟩:Heap)=h0;have Cw:=Fz k0 l0 hs0;have hlen:(dO l0).length≤6:=by simp[dO];omega
 have hKi:AU (dO l0):=by
  intro x hx;simp only[dO,List.mem_map] at hx;obtain⟨y,_,rfl⟩:=hx;exact⟨rfl,by simp[DJ];omega⟩
 have ht:∀x∈dO l0,x.ts.length≤6:=by
  intro x hx;simp only[dO,List.mem_map] at hx;obtain⟨y,_,rfl⟩:=hx;simp[DJ];omega
 have hsm:Small (dO l0):=⟨by omega,fun x hx=>by have:=ht x hx;omega⟩;generalize dO l0=L at*;obtain⟨kk,hkk⟩:∃kk,kk=gv L.length:=⟨_,rfl⟩;rw[←hkk] at Cw;obtain⟨m,hm,hml⟩:∃m,m=min b0.length 8∧m≤b0.length:=⟨_,rfl,Nat.min_le_left _ _⟩;have Rc:=GJ kb b0 m hml;obtain⟨kc,hkc⟩:∃kc,cV kb false m b0.length b0.length=kc:=⟨_,rfl⟩;rw[hkc] at Rc;have eN:cond (decide ((8:Int)<((b0.length:Nat):Int))) 8 ((b0.length:Nat):Int)=((m:Nat):Int):=by
  cases hd:decide ((8:Int)<((b0.length:Nat):Int)) with
  |true=>have:=of_decide_eq_true hd;simp only[cond_true];omega
  |false=>have:=of_decide_eq_false hd;simp only[cond_false];omega
 generalize b0.take m=bs at*;have hLc:=Gd kk L hsm;have hRc:=P8 kk L (by omega);generalize ym L=q at*;obtain⟨qa,qb,qe⟩:=q;refine bw (af:=C8) rfl (Nat.le_of_ble_eq_true rfl) ?_;conv=>whnf
 refine aj true ?_;conv=>whnf
 refine aj true ?_;conv=>whnf
 refine au Cw ?_;conv=>whnf
 refine au Cw ?_;conv=>whnf
 refine aj true ?_;conv=>whnf
 rw[cu,eN];refine⟨_,Rc,?_⟩;conv=>whnf
 refine aj true ?_;conv=>whnf
 refine au (v:=.cQ [.int .i64 qa,.int .i64 qb,.int .i64 qe]) hLc ?_;conv=>whnf
 refine aj true ?_;conv=>whnf
 refine au (v:=.cQ [.int .i64 qa,.int .i64 qb,.int .i64 qe]) hRc ?_;conv=>whnf
 refine aj true ?_;conv=>whnf
 obtain⟨e,hb⟩:=RC (h:=h0) (kb:=kc) (bs:=bs) hkk hKi hlen ht;refine hb fun h1 x hr=>?_;conv=>whnf
 refine aj true ?_;conv=>whnf
 refine hr fun h2 y n n6 XY2=>?_;conv=>whnf
 obtain⟨⟨A,ka,ka',fx,fy,hA,hAt⟩,hsh⟩:=XY2;refine ak 5 [(5,.fz kk (pts L)),(6,.fz kk (pts L)),(7,.int .i64 qa),(8,.int .i64 qb),(9,.int .i64 qe),(10,.int .i64 qa),(11,.int .i64 qb),(12,.int .i64 qe),(13,x),(14,.int .i64 e),(15,y),(16,.int .i64 e)] ⟨rfl,rfl,rfl,rfl,rfl,rfl,rfl,rfl,rfl,rfl,rfl,rfl,trivial⟩ ?_;refine az (az (Nf (wX 3 (dh (z:=true) ?_))));conv=>whnf
 rw[show(qa !=qa)=false by simp];refine wX 5 (dh (z:=true) ?_);conv=>whnf
 rw[show(qb !=qb)=false by simp];refine wX 5 (dh (z:=true) ?_);conv=>whnf
 rw[show(qe !=qe)=false by simp];refine wX 7 (dh (z:=true) ?_);conv=>whnf
 refine ji (EK ka ka' (DO A) (by omega) fun a ha=>by have:=hAt a ha;omega) rfl (.cons fx (.cons fy .nil)) ?_;conv=>whnf
 refine wX 3 (dh (z:=true) ?_);conv=>whnf
 rw[show(e !=e)=false by simp];refine dh (z:=true) ?_;conv=>whnf
 refine aa (z:=true) ?_;conv=>whnf
 refine ak 5 [(5,.fz kk (pts L)),(6,.fz kk (pts L)),(13,x)] ⟨rfl,rfl,rfl,trivial⟩ ?_;refine az (aj true ?_);conv=>whnf
 refine aL ?_;refine VC.mono (Q:=fun z e1 h1=>z=.exit 0∧aP e1 [(5,.fz kk (pts L)),(6,.fz kk (pts L))]) ?_ ?_
 ·rcases hsh with⟨rfl,rfl⟩|⟨b,rfl,X⟩
  ·refine lU (z:=true) ?_;conv=>whnf
   exact⟨rfl,rfl,rfl,trivial⟩
  ·exact Xk (kk:=kk) (L:=L) (by omega) (fun e' h' he=>⟨rfl,he⟩) _ 0 h2 _ rfl (Nat.zero_le _) X (by repeat' (first|exact trivial|refine And.intro (by first|with_reducible_and_instances rfl|(refine Eq.trans (b:=some (AV.int .i64 _)) rfl (congrArg (fun z=>some (AV.int .i64 z)) ?_);first|omega|(simp(disch:=omega) only[IntWalk.i64_in]<;>omega))|rfl) ?_))
 ·rintro z e' h' ⟨rfl,he⟩;show VC fs ms _ _ _ _ _ _;refine ak 5 _ he (aa (z:=true) ?_);conv=>whnf
  refine au (EK kk kk (DO L) (by omega) fun a ha=>by have:=ht a ha;omega) ?_;conv=>whnf
  refine au JR ?_;conv=>whnf
  exact QW _
end Ir
end Go.Proofs.Ytepdklcpagielaa
