/-
  Room: what a room answers, as functions of what it is; the program's Ask, Hold, Give, Earliest. Room: the document's stack. Room: the document's stack, changed. Room: the document's Unlock and Drop. Room: the document's Unlock, Drop, New of a stack.
-/
import Derived.Test.YtnlcabhfkpafmaaGreatZF
import Derived.Test.YtnlcabhfkpafmaaGreatZC
set_option maxRecDepth 100000
set_option linter.unusedSimpArgs false
set_option linter.unusedVariables false
set_option smartUnfolding false
namespace Go.Proofs.YtnlcabhfkpafmaaGreat
open Go Ads
namespace Ir
def sI(st:St)(t:Int)(f:Jb→Int×Jb):Int×St:=if lW st.T st.j t≠0 then(lW st.T st.j t,st) else match st.j[t.toNat]? with
 |some (some j)=>((f j).1,{st with j:=st.j.set t.toNat (some (f j).2)})
 |_=>(0,st)
theorem mK{st:St}{t:Int}{f:Jb→Int×Jb}(h:lW st.T st.j t≠0):sI st t f=(lW st.T st.j t,st):=if_pos h
theorem mJ{st:St}{i:Nat}{j:Jb}{f:Jb→Int×Jb}(hl:i<st.T.length)(h:st.j[i]?=some (some j)):sI st i f=((f j).1,{st with j:=st.j.set i (some (f j).2)}):=by
 unfold sI;rw[if_neg (by rw[gO hl h];simp),Int.toNat_natCast,h]
def OH(j:Jb):Int×Jb:=(mo j,nO j)
def MV(j:Jb):Int×Jb:=(uq j,v7 j)
def uk(j:Jb):Int×Jb:=if j.s≠3 then(132,j) else(gM j 2,mG j 2)
def uh(j:Jb):Int×Jb:=if j.s≠2 then(132,j) else(ur j,sB j)
def uH(g:Int)(j:Jb):Int×Jb:=if g=0 then(133,j) else if j.s=3 then(0,j) else(gM j 3,mG j 3)
def gT(st:St)(t:Int):Int:=match st.T[t.toNat]? with|some tk=>tk.c|none=>0
def qM(st:St)(t x:Int):Int×St:=if lW st.T st.j t≠0 then(lW st.T st.j t,st) else match st.j[t.toNat]? with
 |some (some j)=>if j.s≥2 then(130,st) else if fm st.T st.L t x≠0 then(fm st.T st.L t x,st) else(0,{st with L:=st.L++[(t,x)],j:=st.j.set t.toNat (some (yG j))})
 |_=>(0,st)
def xN(st:St)(t:Int):Int×St:=if lW st.T st.j t≠0 then(lW st.T st.j t,st) else match st.j[t.toNat]? with
 |some (some j)=>if iT st.T st.L t≠0 then(iT st.T st.L t,st) else(0,{st with L:=st.L.eraseIdx (dw st.L t).toNat,j:=st.j.set t.toNat (some (uP (st.L.eraseIdx (dw st.L t).toNat) t j))})
 |_=>(0,st)
def xw(st:St)(t:Int):Bool×St:=if lW st.T st.j t≠0 then(false,st) else(true,{st with L:=jF st.L t,j:=st.j.set t.toNat none})
def wL(st:St)(t:Int)(l:List Op)(now:Int):Int×St:=if cw st.T t≠0 then(cw st.T t,st) else match st.j[t.toNat]? with
 |some (some _)=>(141,st)
 |_=>match st.T[t.toNat]?,st.g[t.toNat]? with
  |some tk,some n=>if fU tk l now≠0 then(fU tk l now,st) else if ku n now≠0 then(ku n now,st) else(0,{st with j:=st.j.set t.toNat (some (jE tk l now)),g:=st.g.set t.toNat (zx tk.p n now)})
  |_,_=>(0,st)
theorem pU(j:Jb)(s:Int):(mG j s).e=j.e∧(mG j s).l=j.l:=by
 rw[mG];split
 ·split<;>exact⟨rfl,rfl⟩
 ·exact⟨rfl,rfl⟩
section
variable {h:Heap} {col:Nat→Nat} {r s q k J:Nat} {gv:AV} {D:List Id} {ws:Ws} {gs:List (Nat×Int)} {T:List Tk} {L:List En} {st:St} {Q:AV→Heap→Prop} {t:Int}
theorem O8{n:Nat}(h:RK n):vo n:=.inl h
theorem BZ(R:RA h col r st){i:Nat}{j:Jb}(hj:st.j[i]?=some (some j)):i<st.T.length:=by
 obtain⟨s,q,k,J,gv,D,ws,gs,R,e1,e2,e3,e4⟩:=R;have:=(List.getElem?_eq_some_iff.1 hj).1;rw[e1,wj,List.length_map,R.tl] at this;exact this
theorem Jt(R:RA h col r st)(hQ:∀h' aB,RA h' aB r (sI st t OH).2→Kc h h' col aB vo→Q (.int .i64 (sI st t OH).1) h'):VD fs ms 21 [.ptr r 0,.int .i64 t] h Q:=by
 refine EV R (fun hn=>?_) (fun i j ht hj h' aB R' f=>?_)
 ·rw[mK hn] at hQ;exact hQ h col R (Kc.refl _ _ _)
 ·subst ht;rw[mJ (BZ R hj) hj] at hQ;exact hQ h' aB R' (f.wk fun _=>O8)
theorem RU(R:RA h col r st)(hQ:∀h' aB,RA h' aB r (sI st t MV).2→Kc h h' col aB vo→Q (.int .i64 (sI st t MV).1) h'):VD fs ms 20 [.ptr r 0,.int .i64 t] h Q:=by
 refine ES R (fun hn=>?_) (fun i j ht hj h' aB R' f=>?_)
 ·rw[mK hn] at hQ;exact hQ h col R (Kc.refl _ _ _)
 ·subst ht;rw[mJ (BZ R hj) hj] at hQ;exact hQ h' aB R' (f.wk fun _=>O8)
theorem HW{i b:Nat}{j:Jb}{x:Int}(R:qo h col r s q k J gv D ws gs st.T st.L)(e1:st.j=wj ws)(e2:st.g=gs.map Prod.snd)(e3:∀y:Id,y∈D↔∃j,st.j[y.1]?=some (some j)∧y.2=j.e)(e4:∀(i:Nat) (j:Jb),st.j[i]?=some (some j)→j.l.length≤32)(hw:ws[i]?=some (some (b,j)))
  (hQ:∀h' aB,RA h' aB r {st with j:=st.j.set i (some (mG j x))}→Kc h h' col aB RK→Q (.int .i64 (gM j x)) h'):VD fs ms 85 [.ptr b 0,.int .i64 x] h Q:=by
 have hj:st.j[i]?=some (some j):=by rw[e1];exact dn hw
 obtain⟨p,C,o,v,JJ,hC,c1,c2,c3⟩:=R.mN i _ hw;refine I0 JJ fun h4 J4 jJ=>?_;have f5:Kc h h4 col (bZ col h.next (10+i)) (· =10+i):=Kc.of jJ (by intro c hc _;simp at hc;rcases hc with rfl;exact c1);have hp:=JJ.rw.lt;have hb:=JJ.lt;have JB:KE h4 (bZ col h.next (10+i)) i b (mG j x):=⟨p,C,o,v,J4,Nat.lt_of_lt_of_le hC f5.next,by rw[f5.col b hb,c1],by rw[f5.col p hp,c2],by rw[f5.col C hC,c3]⟩;exact hQ _ _ (RA.v9 R e1 e2 e3 e4 hw f5 JB (pU j x).1 (by rw[(pU j x).2];exact e4 i j hj)) (f5.wk fun n hn=>by subst hn;exact Ff i (R.len hw))
theorem mB{i:Nat}{j:Jb}(hj:st.j[i]?=some (some j)):{st with j:=st.j.set i (some j)}=st:=by
 rw[dc hj]
theorem N0(R:RA h col r st)(hQ:∀h' aB,RA h' aB r (sI st t uk).2→Kc h h' col aB vo→Q (.int .i64 (sI st t uk).1) h'):VD fs ms 25 [.ptr r 0,.int .i64 t] h Q:=by
 have R0:=R;obtain⟨s,q,k,J,gv,D,ws,gs,R,e1,e2,e3,e4⟩:=R;refine aj (af:=Va) true rfl (yB rfl) ?_;conv=>whnf
 refine n9 R (fun hn=>?_) (fun i b j ht hw=>⟨90,[],rfl,?_⟩)
 ·conv=>whnf
  rw[←e1] at hn⊢;rw[mK hn] at hQ;exact hQ h col R0 (Kc.refl _ _ _)
 ·subst ht;have hj:st.j[i]?=some (some j):=by rw[e1];exact dn hw
  rw[mJ (BZ R0 hj) hj] at hQ;refine aj (af:=V9) true rfl (yB rfl) ?_;conv=>whnf
  obtain⟨p,C,o,v,JJ,_⟩:=R.mN i _ hw;refine tS JJ ?_;conv=>whnf
  refine br (fun hc=>?_) (fun hc=>?_)<;>(try rw[hc])<;>(conv=>whnf)
  ·have hs:j.s≠3:=by simpa using hc
   rw[uk,if_pos hs,mB hj] at hQ;exact hQ h col R0 (Kc.refl _ _ _)
  ·have hs:¬j.s≠3:=by simpa using hc
   rw[uk,if_neg hs] at hQ;refine HW R e1 e2 e3 e4 hw fun h' aB R' f=>?_;conv=>whnf
   exact hQ h' aB R' (f.wk fun _=>O8)
theorem NZ(R:RA h col r st)(hQ:∀h' aB,RA h' aB r (sI st t uh).2→Kc h h' col aB vo→Q (.int .i64 (sI st t uh).1) h'):VD fs ms 26 [.ptr r 0,.int .i64 t] h Q:=by
 have R0:=R;obtain⟨s,q,k,J,gv,D,ws,gs,R,e1,e2,e3,e4⟩:=R;refine aj (af:=Vb) true rfl (yB rfl) ?_;conv=>whnf
 refine n9 R (fun hn=>?_) (fun i b j ht hw=>⟨91,[],rfl,?_⟩)
 ·conv=>whnf
  rw[←e1] at hn⊢;rw[mK hn] at hQ;exact hQ h col R0 (Kc.refl _ _ _)
 ·subst ht;have hj:st.j[i]?=some (some j):=by rw[e1];exact dn hw
  rw[mJ (BZ R0 hj) hj] at hQ;refine aj (af:=Wa) true rfl (yB rfl) ?_;conv=>whnf
  obtain⟨p,C,o,v,JJ,_⟩:=R.mN i _ hw;refine tS JJ ?_;conv=>whnf
  refine br (fun hc=>?_) (fun hc=>?_)<;>(try rw[hc])<;>(conv=>whnf)
  ·have hs:j.s≠2:=by simpa using hc
   rw[uh,if_pos hs,mB hj] at hQ;exact hQ h col R0 (Kc.refl _ _ _)
  ·have hs:¬j.s≠2:=by simpa using hc
   rw[uh,if_neg hs] at hQ;refine Dd R e1 e2 e3 e4 hw fun v h' aB hv R' f=>?_;subst hv;conv=>whnf
   exact hQ h' aB R' (f.wk fun _=>O8)
theorem P7{b1 b2 i b:Nat}{j:Jb}(g1:h.get b1=some (.cells [.ptr r 0] true 0))(g2:h.get b2=some (.cells [.int .i64 ((i:Nat):Int)] true 0))(R:qo h col r s q k J gv D ws gs st.T st.L)(e1:st.j=wj ws)(e2:st.g=gs.map Prod.snd)(e3:∀y:Id,y∈D↔∃j,st.j[y.1]?=some (some j)∧y.2=j.e)(e4:∀(i:Nat) (j:Jb),st.j[i]?=some (some j)→j.l.length≤32)(hw:ws[i]?=some (some (b,j)))
  (R0:RA h col r st)(hQ:∀h' aB,RA h' aB r (sI st i (uH (gT st i))).2→Kc h h' col aB vo→Q (.int .i64 (sI st i (uH (gT st i))).1) h'):VD fs ms 89 [.ptr b 0,.ptr b1 0,.ptr b2 0] h Q:=by
 have hj:st.j[i]?=some (some j):=by rw[e1];exact dn hw
 have hl:=BZ R0 hj;have sZ:pV (.ay 8) [.fz k (eP st.T),.int .i64 ((i:Nat):Int)]=some (.fp (tk st.T[i]).cells 0):=kB hl;have hg:gT st i=st.T[i].c:=by rw[gT,Int.toNat_natCast,List.getElem?_eq_getElem hl]
 rw[mJ hl hj,hg] at hQ;obtain⟨p,C,o,v,JJ,_⟩:=R.mN i _ hw;refine aj (af:=V8) true rfl (yB rfl) ?_;conv=>whnf
 repeat(first|(refine⟨_,aS g1 rfl,?_⟩;conv=>whnf)|(refine⟨_,aS g2 rfl,?_⟩;conv=>whnf)|(refine⟨_,aS R.dB.get rfl,?_⟩;conv=>whnf)|(refine⟨_,sZ,?_⟩;conv=>whnf))
 refine⟨.int .i64 st.T[i].c,rfl,?_⟩;conv=>whnf
 refine br (fun hc=>?_) (fun hc=>?_)<;>(try rw[hc])<;>(conv=>whnf)
 ·have hs:st.T[i].c=0:=by simpa using hc
  rw[uH,if_pos hs,mB hj] at hQ;exact hQ h col R0 (Kc.refl _ _ _)
 have hs:¬st.T[i].c=0:=by simpa using hc
 rw[uH,if_neg hs] at hQ;refine tS JJ ?_;conv=>whnf
 refine br (fun hc=>?_) (fun hc=>?_)<;>(try rw[hc])<;>(conv=>whnf)
 ·have h3:j.s=3:=by simpa using hc
  rw[if_pos h3,mB hj] at hQ;exact hQ h col R0 (Kc.refl _ _ _)
 ·have h3:¬j.s=3:=by simpa using hc
  rw[if_neg h3] at hQ;refine HW R e1 e2 e3 e4 hw fun h' aB R' f=>?_;conv=>whnf
  exact hQ h' aB R' (f.wk fun _=>O8)
theorem RT(R:RA h col r st)(hQ:∀h' aB,RA h' aB r (sI st t (uH (gT st t))).2→Kc h h' col aB vo→Q (.int .i64 (sI st t (uH (gT st t))).1) h'):VD fs ms 24 [.ptr r 0,.int .i64 t] h Q:=by
 have fr:Fr h ((h.new (.cells [.ptr r 0] true 0)).new (.cells [.int .i64 t] true 0)) []:=((Fr.refl h []).new (x:=_)).new (x:=_);refine aj (af:=U9) true rfl (yB rfl) ?_;obtain⟨H,hH⟩:∃H,H=(h.new (.cells [.ptr r 0] true 0)).new (.cells [.int .i64 t] true 0):=⟨_,rfl⟩;have g1:H.get h.next=some (.cells [.ptr r 0] true 0):=by rw[hH];exact(az (Nat.lt_succ_self _)).trans ai
 have g2:H.get (h.next+1)=some (.cells [.int .i64 t] true 0):=by rw[hH];exact ai (h:=h.new _)
 rw[←hH] at fr;have R0:=R.nil fr;have YD:∀h' aB,RA h' aB r (sI st t (uH (gT st t))).2→Kc H h' col aB vo→Q (.int .i64 (sI st t (uH (gT st t))).1) h':=fun h' aB R' f=>hQ h' aB R' ((Kc.same fr).trans f);conv=>whnf
 refine⟨_,aS (show((h.new (.cells [.ptr r 0] true 0)).new (.cells [.int .i64 t] true 0)).get h.next=some (.cells [.ptr r 0] true 0) by rw[←hH];exact g1) rfl,?_⟩;conv=>whnf
 refine⟨_,aS (show((h.new (.cells [.ptr r 0] true 0)).new (.cells [.int .i64 t] true 0)).get (h.next+1)=some (.cells [.int .i64 t] true 0) by rw[←hH];exact g2) rfl,?_⟩;conv=>whnf
 show VD fs ms 79 _ ((h.new (.cells [.ptr r 0] true 0)).new (.cells [.int .i64 t] true 0)) _;rw[←hH];clear hH;have R1:=R0;obtain⟨s,q,k,J,gv,D,ws,gs,R,e1,e2,e3,e4⟩:=R1;refine n9 R (fun hn=>?_) (fun i b j ht hw=>⟨89,[.ptr h.next 0,.ptr (h.next+1) 0],rfl,?_⟩)
 ·conv=>whnf
  rw[←e1] at hn⊢;rw[mK hn] at YD;exact YD H col R0 (Kc.refl _ _ _)
 ·subst ht;refine VD.mono (P7 (Q:=fun v h'=>Q v h') g1 g2 R e1 e2 e3 e4 hw R0 YD) fun v h' hq=>?_;conv=>whnf
  exact hq
def yj(st:St)(t:Int):Int:=if cw st.T t≠0 then 0 else match st.g[t.toNat]? with|some n=>n|none=>0
theorem NY(R:RA h col r st)(hQ:Q (.int .i64 (yj st t)) h):VD fs ms 29 [.ptr r 0,.int .i64 t] h Q:=by
 obtain⟨s,q,k,J,gv,D,ws,gs,R,e1,e2,e3,e4⟩:=R;refine aj (af:=Ve) true rfl (yB rfl) ?_;conv=>whnf
 refine Aa R.dB.get ?_;conv=>whnf
 refine br (fun hc=>?_) (fun hc=>?_)<;>(try rw[hc])<;>(conv=>whnf)
 ·have ha:cw st.T t≠0:=by simpa using hc
  rw[yj,if_pos ha] at hQ;exact hQ
 have ha:cw st.T t=0:=by simpa using hc
 obtain⟨i,rfl,hi⟩:=tc ha;have sq:i<gs.length:=by rw[R.gl];exact hi
 rw[yj,if_neg (by simpa using ha),Int.toNat_natCast,e2,List.getElem?_map,List.getElem?_eq_getElem sq] at hQ;obtain⟨a1,a2,a3,a4⟩:=R.uK.all i gs[i] st.T[i] (List.getElem?_eq_getElem sq) (List.getElem?_eq_getElem hi);rcases R.uK.row with hz|⟨G,op,es,hv,b1,b2,b3⟩
 ·rw[hz] at sq;simp at sq
 ·subst hv;have hg:(gs.map fun g=>AV.ptr g.1 0)[i*1]?=some (.ptr gs[i].1 0):=by rw[Nat.mul_one,List.getElem?_map,List.getElem?_eq_getElem sq];rfl
  repeat(first|(refine⟨_,aS R.dB.get rfl,?_⟩;conv=>whnf)|(refine⟨_,aH sq,?_⟩;conv=>whnf)|(refine⟨_,aS b3 hg,?_⟩;conv=>whnf))
  refine Nb a4 a1 ?_;conv=>whnf
  exact hQ
theorem N2{x:Int}(R:RA h col r st)(hL:st.L.length≤900)(hQ:∀h' aB,RA h' aB r (qM st t x).2→Kc h h' col aB vo→Q (.int .i64 (qM st t x).1) h'):VD fs ms 22 [.ptr r 0,.int .i64 t,.int .i64 x] h Q:=by
 refine B0 R hL (fun hn h' fr=>?_) (fun i j ht hj hs h' fr=>?_) (fun i j ht hj hs hl h' fr=>?_) (fun i j ht hj hs hl h' aB R' f=>?_)
 ·rw[qM,if_pos hn] at hQ;exact hQ h' col (R.nil fr) (Kc.same fr)
 all_goals subst ht;rw[qM,if_neg (by rw[gO (BZ R hj) hj];simp),Int.toNat_natCast,hj] at hQ;simp only at hQ
 ·rw[if_pos hs] at hQ;exact hQ h' col (R.nil fr) (Kc.same fr)
 ·rw[if_neg (by omega),if_pos hl] at hQ;exact hQ h' col (R.nil fr) (Kc.same fr)
 ·rw[if_neg (by omega),if_neg (by simpa using hl)] at hQ;exact hQ h' aB R' (f.wk fun _=>O8)
theorem Sa(R:RA h col r st)(hL:st.L.length≤900)(hQ:∀h' aB,RA h' aB r (xN st t).2→Kc h h' col aB vo→Q (.int .i64 (xN st t).1) h'):VD fs ms 23 [.ptr r 0,.int .i64 t] h Q:=by
 refine wP R hL (fun hn h' fr=>?_) (fun i j ht hj hu h' fr=>?_) (fun i j ht hj hu n hn hla h' aB R' f=>?_)
 ·rw[xN,if_pos hn] at hQ;exact hQ h' col (R.nil fr) (Kc.same fr)
 all_goals subst ht;rw[xN,if_neg (by rw[gO (BZ R hj) hj];simp),Int.toNat_natCast,hj] at hQ;simp only at hQ
 ·rw[if_pos hu] at hQ;exact hQ h' col (R.nil fr) (Kc.same fr)
 ·rw[if_neg (by simpa using hu),hla,Int.toNat_natCast] at hQ;exact hQ h' aB R' (f.wk fun _=>O8)
theorem RV(R:RA h col r st)(hL:st.L.length≤900)(hQ:∀h' aB,RA h' aB r (xw st t).2→Kc h h' col aB vo→Q (.bool (xw st t).1) h'):VD fs ms 27 [.ptr r 0,.int .i64 t] h Q:=by
 refine ET R hL (fun hn=>?_) (fun i j ht hj h' aB R' f=>?_)
 ·rw[xw,if_pos hn] at hQ;exact hQ h col R (Kc.refl _ _ _)
 ·subst ht;rw[xw,if_neg (by rw[gO (BZ R hj) hj];simp),Int.toNat_natCast] at hQ;exact hQ h' aB R' (f.wk fun _=>O8)
theorem RZ{kk:Nat}{l:List Op}{now:Int}(R:RA h col r st)(hk:kk=3→l=[])(hl:l.length<2^62)(hQ:∀h' aB,RA h' aB r (wL st t l now).2→Kc h h' col aB vo→Q (.int .i64 (wL st t l now).1) h'):VD fs ms 28 [.ptr r 0,.int .i64 t,.fz kk (ops l),.int .i64 now] h Q:=by
 refine EU (l:=l) (bs:=[]) R (by simp) (fun t0 Q h0 h1=>I2 hk hl h0 h1) (fun hn=>?_) (fun i j ht hj=>?_) (fun i tk ht hT hj hn h' aB R' f=>?_) (fun i tk n ht hT hj hn hg Ni h' aB R' f=>?_) (fun i tk n ht hT hj hn hg Ni h' aB R' f=>?_)
 ·rw[wL,if_pos hn] at hQ;exact hQ h col R (Kc.refl _ _ _)
 ·subst ht;have ha:cw st.T i=0:=by rw[cw,decide_eq_false (by omega),decide_eq_false (by have:=BZ R hj;omega)];rfl
  rw[wL,if_neg (by simpa using ha),Int.toNat_natCast,hj] at hQ;exact hQ h col R (Kc.refl _ _ _)
 all_goals
  subst ht;have ha:cw st.T i=0:=by rw[cw,decide_eq_false (by omega),decide_eq_false (by have:=(List.getElem?_eq_some_iff.1 hT).1;omega)];rfl
  rw[wL,if_neg (by simpa using ha),Int.toNat_natCast,hj,hT] at hQ
 ·have sq:i<st.g.length:=by
   obtain⟨s,q,k,J,gv,D,ws,gs,R,e1,e2,e3,e4⟩:=R;rw[e2,List.length_map,R.gl];exact(List.getElem?_eq_some_iff.1 hT).1
  rw[List.getElem?_eq_getElem sq] at hQ;simp only at hQ;rw[if_pos hn] at hQ;exact hQ h' aB R' f
 ·rw[hg] at hQ;simp only at hQ;rw[if_neg (by simpa using hn),if_pos Ni] at hQ;exact hQ h' aB R' f
 ·rw[hg] at hQ;simp only at hQ;rw[if_neg (by simpa using hn),if_neg (by simpa using Ni)] at hQ;exact hQ h' aB R' f
end
def dM:AV→List Nat
 |.sl b _ _ _ _=>[b]
 |_=>[]
theorem GR.Gg{s lo:Nat}{h:Heap}{v:AV}{M:List AV}(hr:GR s lo h v M){d:Nat}(ho:d∈dM v):lo≤d∧d<h.next∧h.get d=some (.cells (aa M) true s):=by
 rcases hr with⟨_,rfl⟩|⟨_,b,h1,h2,rfl,h4⟩
 ·simp[dM] at ho
 ·simp[dM] at ho;subst ho;exact⟨h1,h2,h4⟩
theorem GR.WA{s lo lo':Nat}{h h':Heap}{v:AV}{M:List AV}(hr:GR s lo h v M)(hl:lo'≤lo)(hn:h.next≤h'.next)(hk:∀d,d∈dM v→h'.get d=h.get d):GR s lo' h' v M:=by
 rcases hr with h|⟨hne,b,h1,h2,rfl,h4⟩
 ·exact .inl h
 ·exact .inr ⟨hne,b,by omega,by omega,rfl,(hk b (by simp[dM])).trans h4⟩
theorem GR.RP{s lo:Nat}{h:Heap}{v:AV}{M:List AV}(hr:GR s lo h v M):v.cells=[v]∧v.cells.length=1∧bz v.cells=true:=by
 rcases hr with⟨_,rfl⟩|⟨_,b,_,_,rfl,_⟩<;>exact⟨rfl,rfl,rfl⟩
theorem GR.at{s lo:Nat}{h:Heap}{v:AV}{M:List AV}(hr:GR s lo h v M)(hs:aN s M=true){i:Nat}(hi:i<M.length):∃b,pV (.ay s) [v,.int .i64 ((i:Nat):Int)]=some (.ptr b (i*s))∧∀(r:Nat) (c:AV),M[i].cells[r]?=some c→rV .ck [.ptr b (i*s+r)] h=some c:=by
 rcases hr with⟨rfl,_⟩|⟨_,b,h1,h2,rfl,h4⟩
 ·simp at hi
 ·exact⟨b,aH hi,fun r c hc=>aS h4 (kU hs (List.getElem?_eq_getElem hi) hc)⟩
theorem GR.Tm{s bytes lo:Nat}{h:Heap}{v:AV}{M:List AV}(hr:GR s lo h v M){x:AV}(hx:x.cells.length=s)(hf:bz x.cells=true)(hs:aN s M=true)(hl:(M.length+1)*bytes≤140737488355328)(hm:M.length+1≤140737488355328):
  ∃v' g',eV (.append s bytes) [v,.sl h.next 0 1 1 false] (h.new (.cells x.cells true 0))=some (v',g')∧GR s h.next g' v' (M++[x])∧Fr h g' (dM v):=by
 have hsrc:dm s (h.new (.cells x.cells true 0)) (.sl h.next 0 1 1 false)=some (1,x.cells):=Ko ai (by omega);have GM:aa (M++[x])=aa M++x.cells:=by rw[lI];simp[aa]
 rcases hr with⟨h1,h2⟩|⟨FQ,b,h1,h2,h3,h4⟩
 ·subst h1 h2;have:=mS (bytes:=bytes) hsrc hf (by simpa using hl) (by omega);rw[if_neg (by omega)] at this;refine⟨_,_,this,.inr ⟨by simp,h.next+1,by omega,Nat.lt_succ_self _,rfl,?_⟩,((Fr.refl h _).new).new⟩;rw[GM];exact ai (h:=h.new (.cells x.cells true 0))
 ·subst h3;have hg:(h.new (.cells x.cells true 0)).get b=some (.cells (aa M) true s):=by rw[az h2];exact h4
  refine⟨_,_,AG hg (jh hs) hsrc hf hl hm,.inr ⟨by simp,h.next+1,by omega,Nat.lt_succ_self _,by rw[List.length_append];rfl,?_⟩,by show h.next≤h.next+1+1;omega,fun c hc ho=>?_⟩
  ·have:=ai (h:=(h.new (.cells x.cells true 0)).del b) (x:=.cells (aa M++x.cells) true s);rw[show((h.new (.cells x.cells true 0)).del b).next=h.next+1 from rfl] at this;rw[this,GM]
  ·have hne:c≠b:=by simpa[dM] using ho
   exact(az (h:=(h.new (.cells x.cells true 0)).del b) (show c<h.next+1 by omega)).trans ((oU hne).trans (az (by omega)))
def DM(h:Heap)(tv:AV)(T:List Tk):Prop:=(T=[]∧(tv=.aK∨∃b,tv=.sl b 0 0 0 false∧b<h.next∧h.get b=some (.cells [] true 0)))∨∃b op,tv=.sl b 0 T.length T.length op∧b<h.next∧h.get b=some (.cells (aa (eP T)) true 8)
section
variable {h h':Heap} {s:Nat} {tv v:AV} {T:List Tk} {L:List En} {Q:AV→Heap→Prop} {t:Int}
theorem DM.keep{bs:List Nat}(R:DM h tv T)(f:Fr h h' bs)(hb:∀c,c∈dM tv→c∉bs):DM h' tv T:=by
 rcases R with⟨h1,h2|⟨b,rfl,h3,h4⟩⟩|⟨b,op,rfl,h3,h4⟩
 ·exact .inl ⟨h1,.inl h2⟩
 ·exact .inl ⟨h1,.inr ⟨b,rfl,Nat.lt_of_lt_of_le h3 f.next,(f.keep b h3 (hb b (by simp[dM]))).trans h4⟩⟩
 ·exact .inr ⟨b,op,rfl,Nat.lt_of_lt_of_le h3 f.next,(f.keep b h3 (hb b (by simp[dM]))).trans h4⟩
theorem DM.lt(R:DM h tv T):∀c,c∈dM tv→c<h.next∧∀cs,h.get c≠some (.cells cs true 2):=by
 intro c hc;rcases R with⟨h1,rfl|⟨b,rfl,h3,h4⟩⟩|⟨b,op,rfl,h3,h4⟩
 ·simp[dM] at hc
 ·simp[dM] at hc;subst hc;exact⟨h3,fun cs e=>by rw[h4] at e;simp at e⟩
 ·simp[dM] at hc;subst hc;exact⟨h3,fun cs e=>by rw[h4] at e;simp at e⟩
theorem DM.len(R:DM h tv T):pV .bK [tv]=some (.int .i64 ((T.length:Nat):Int)):=by
 rcases R with⟨rfl,rfl|⟨b,rfl,_⟩⟩|⟨b,op,rfl,_⟩<;>rfl
theorem DM.SG(R:DM h tv T):∃k,nu (fun _=>True) h tv (.fz k (eP T)):=by
 rcases R with⟨rfl,rfl|⟨b,rfl,h3,h4⟩⟩|⟨b,op,rfl,h3,h4⟩
 ·exact⟨3,.aK⟩
 ·exact⟨0,pY (rest:=[]) (s:=8) trivial h4 rfl rfl rfl (Nat.le_refl _) rfl⟩
 ·exact⟨0,pY (rest:=[]) (s:=8) trivial h4 (by simp) (iu T) (bq T).symm (Nat.le_refl _) (bD T)⟩
theorem DM.at(R:DM h tv T){i:Nat}(hi:i<T.length):∃b,pV (.ay 8) [tv,.int .i64 ((i:Nat):Int)]=some (.ptr b (i*8))∧(∀(r:Nat) (c:AV),(tk T[i]).cells[r]?=some c→rV .ck [.ptr b (i*8+r)] h=some c)∧rV (.aY 8) [.ptr b (i*8)] h=some (tk T[i]):=by
 rcases R with⟨rfl,_⟩|⟨b,op,rfl,h3,h4⟩
 ·simp at hi
 ·have sZ:(eP T)[i]?=some (tk T[i]):=by rw[eP,List.getElem?_map,List.getElem?_eq_getElem hi];rfl
  refine⟨b,aH hi,fun r c hc=>aS h4 (kU (iu T) sZ hc),?_⟩;have QT:=jh (iu T);rw[bq] at QT;rw[uZ h4 (by rw[QT];omega)]
  congr 1
  have:∀r,r<8→((aa (eP T)).drop (i*8)).take 8=(tk T[i]).cells:=fun _ _=>by
   apply List.ext_getElem?;intro n;rw[List.getElem?_take,List.getElem?_drop];split
   ·rename_i hn;have hl:(tk T[i]).cells[n]?=some ((tk T[i]).cells[n]'(by simpa[tk,AV.cells] using hn)):=List.getElem?_eq_getElem _;rw[hl];exact kU (iu T) sZ hl
   ·rename_i hn;exact(List.getElem?_eq_none (by simp[tk,AV.cells];omega)).symm
  rw[this 0 (by decide)];rfl
structure qA(h:Heap)(s:Nat)(tv v:AV)(T:List Tk)(L:List En):Prop where
 lt:s<h.next
 st:h.get s=some (.cells [tv,v] true 0)
 tr:DM h tv T
 en:GR 2 0 h v (dJ L)
 nt:s∉dM tv
theorem qA.nv(S:qA h s tv v T L):s∉dM v:=fun hm=>by
 have:=(GR.Gg S.en hm).2.2;rw[S.st] at this;simp at this
theorem qA.ntv(S:qA h s tv v T L):∀c,c∈dM tv→c∉dM v:=fun c hc hm=>(S.tr.lt c hc).2 _ (GR.Gg S.en hm).2.2
theorem qA.keep{bs:List Nat}(S:qA h s tv v T L)(f:Fr h h' bs)(h1:s∉bs)(h2:∀c,c∈dM tv→c∉bs)(h3:∀c,c∈dM v→c∉bs):qA h' s tv v T L:=
 ⟨Nat.lt_of_lt_of_le S.lt f.next,(f.keep s S.lt h1).trans S.st,S.tr.keep f h2,GR.WA S.en (Nat.le_refl _) f.next fun d hd=>f.keep d (GR.Gg S.en hd).2.1 (h3 d hd),S.nt⟩
theorem qA.nil(S:qA h s tv v T L)(f:Fr h h' []):qA h' s tv v T L:=S.keep f (by simp) (by simp) (by simp)
theorem J6{h0:Heap}(S:qA h0 s tv v T L)(hL:L.length≤1000){B:Nat}{Q:AX→Env→Heap→Prop}(hQ:∀e' h' w,GR 1 h0.next h' w (ints (bx L t))→Fr h0 h' []→dr e' [(5,w)]→Q (.exit 0) e' h'):
  ∀(m j:Nat) (h:Heap) (env:Env) (w:AV),L.length-j=m→j≤L.length→GR 1 h0.next h w (ints (bx (L.take j) t))→Fr h0 h []→dr env [(0,.ptr s 0),(1,.int .i64 t),(5,w),(6,.int .i64 ((j:Nat):Int))]→VC fs ms B false (.loop eW) env h Q:=by
 intro m;induction m with
 |zero=>
  intro j h env w hm hj hr fr dF;have hjl:j=L.length:=by omega
  have S1:=S.nil fr;subst hjl;refine aG 5 _ dF ?_;refine cS (an (z:=true) ?_);conv=>whnf
  refine⟨_,aS S1.st rfl,?_⟩;conv=>whnf
  rw[GR.len S1.en];conv=>whnf
  refine nC (by simp[bu]) (fun hc=>?_)
  (try rw[hc])
  conv=>whnf
  rw[List.take_length] at hr;exact hQ _ _ w hr fr ⟨rfl,trivial⟩
 |succ m ih=>
  intro j h env w hm hj hr fr dF;have hlt:j<L.length:=by omega
  have S1:=S.nil fr;have jQ:=yC hlt t;have hhl:=vX (L.take j) t;rw[List.length_take] at hhl;obtain⟨b,sZ,oz⟩:=GR.at S1.en (fq L) (i:=j) (by rw[bu];exact hlt);have Av:=oz 0 (.int .i64 L[j].1) (by simp[dJ,en,AV.cells]);have Eg:=oz 1 (.int .i64 L[j].2) (by simp[dJ,en,AV.cells]);refine aG 5 _ dF ?_;refine cS (aE true ?_);conv=>whnf
  refine⟨_,aS S1.st rfl,?_⟩;conv=>whnf
  rw[GR.len S1.en];conv=>whnf
  refine qq (by simp[bu];omega) (fun hc=>?_)
  (try rw[hc])
  conv=>whnf
  refine bt (bw (aE true ?_));conv=>whnf
  refine⟨_,aS S1.st rfl,?_⟩;conv=>whnf
  refine⟨_,sZ,?_⟩;conv=>whnf
  refine⟨_,Av,?_⟩;conv=>whnf
  refine gW ?_;conv=>whnf
  refine br (fun hc=>?_) (fun hc=>?_)<;>(try rw[hc])<;>(conv=>whnf)
  ·rw[if_pos hc] at jQ;refine an (z:=true) ?_;conv=>whnf
   refine⟨_,aS S1.st rfl,?_⟩;conv=>whnf
   refine⟨_,sZ,?_⟩;conv=>whnf
   refine⟨_,Eg,?_⟩;conv=>whnf
   obtain⟨w',g',ha,Yw,hn',hk'⟩:=GR.app (bytes:=8) hr fr.next (x:=.int .i64 L[j].2) rfl rfl (qj _) (by rw[bH];omega) (by rw[bH];omega);refine⟨_,_,ha,?_⟩;conv=>whnf
   refine an (z:=true) ?_;conv=>whnf
   refine ih (j+1) g' _ w' (by omega) (by omega) (by rw[jQ,ints,List.map_append];exact Yw) ⟨by have:=fr.next;omega,fun c hc _=>(hk' c hc).trans (fr.keep c hc (by simp))⟩ ⟨rfl,rfl,rfl,aJ (by omega),trivial⟩
  ·rw[if_neg (by simpa using hc)] at jQ;refine an (z:=true) ?_;conv=>whnf
   refine an (z:=true) ?_;conv=>whnf
   refine ih (j+1) h _ w (by omega) (by omega) (by rw[jQ];exact hr) fr ⟨rfl,rfl,rfl,aJ (by omega),trivial⟩
theorem nh(S:qA h s tv v T L)(hL:L.length≤1000)(hQ:∀h' w,GR 1 h.next h' w (ints (bx L t))→Fr h h' []→Q w h'):VD fs ms 124 [.ptr s 0,.int .i64 t] h Q:=by
 refine bX (af:=Lg) rfl (yB rfl) ?_;conv=>whnf
 refine aE true ?_;conv=>whnf
 refine aE true ?_;conv=>whnf
 refine bt (aE true ?_);conv=>whnf
 refine bw ?_;refine J6 (h0:=h) S hL ?_ L.length 0 h _ .aK rfl (Nat.zero_le _) (.inl ⟨by simp[bx,ints],rfl⟩) (Fr.refl _ _) ⟨rfl,rfl,rfl,rfl,trivial⟩;intro e' h' w hr fr h5;show VC fs ms h.next false _ _ _ _;refine aG 3 _ h5 (an (z:=true) ?_);conv=>whnf
 exact hQ h' w hr fr
theorem JY(S:qA h s tv v T L)(hT:T.length<2^62)(hL:L.length≤1000){B:Nat}{Q:AX→Env→Heap→Prop}(hQ:∀e',dr e' [(3,.int .i64 (iy T L))]→Q (.exit 0) e' h):
  ∀(m j:Nat) (env:Env),L.length-j=m→j≤L.length→dr env [(0,.ptr s 0),(3,.int .i64 (iy T (L.take j))),(4,.int .i64 ((j:Nat):Int))]→VC fs ms B false (.loop ez) env h Q:=by
 intro m;induction m with
 |zero=>
  intro j env hm hj dF;have hjl:j=L.length:=by omega
  subst hjl;rw[List.take_length] at dF;refine aG 5 _ dF ?_;refine cS (an (z:=true) ?_);conv=>whnf
  refine⟨_,aS S.st rfl,?_⟩;conv=>whnf
  rw[GR.len S.en];conv=>whnf
  refine nC (by simp[bu]) (fun hc=>?_)
  (try rw[hc])
  conv=>whnf
  exact hQ _ ⟨rfl,trivial⟩
 |succ m ih=>
  intro j env hm hj dF;have hlt:j<L.length:=by omega
  have jQ:=vz (T:=T) hlt;obtain⟨b,sZ,oz⟩:=GR.at S.en (fq L) (i:=j) (by rw[bu];exact hlt);have Eg:=oz 1 (.int .i64 L[j].2) (by simp[dJ,en,AV.cells]);obtain⟨k,hf⟩:=S.tr.SG;refine aG 5 _ dF ?_;refine cS (aE true ?_);conv=>whnf
  refine⟨_,aS S.st rfl,?_⟩;conv=>whnf
  rw[GR.len S.en];conv=>whnf
  refine qq (by simp[bu];omega) (fun hc=>?_)
  (try rw[hc])
  conv=>whnf
  refine bt (bw (an (z:=true) ?_));conv=>whnf
  refine⟨_,aS S.st rfl,?_⟩;conv=>whnf
  refine⟨_,aS S.st rfl,?_⟩;conv=>whnf
  refine⟨_,sZ,?_⟩;conv=>whnf
  refine⟨_,Eg,?_⟩;conv=>whnf
  refine fQ (HC k T hT L[j].2) rfl (.cons hf (.cons (.clean rfl) .nil)) ?_;conv=>whnf
  refine an (z:=true) ?_;conv=>whnf
  refine ih (j+1) _ (by omega) (by omega) ⟨rfl,vb jQ.symm,aJ (by omega),trivial⟩
theorem JX(S:qA h s tv v T L)(hT:T.length<2^62)(hL:L.length≤1000)(hQ:Q (.int .i64 (iy T L)) h):VD fs ms 62 [.ptr s 0] h Q:=by
 refine bX (af:=VI) rfl (yB rfl) ?_;conv=>whnf
 refine aE true ?_;conv=>whnf
 refine aE true ?_;conv=>whnf
 refine bt (aE true ?_);conv=>whnf
 refine bw ?_;refine JY S hT hL ?_ L.length 0 _ rfl (Nat.zero_le _) ⟨rfl,rfl,rfl,trivial⟩;intro e' h3;show VC fs ms h.next false _ _ _ _;refine aG 3 _ h3 (an (z:=true) ?_);conv=>whnf
 exact hQ
theorem OE(S:qA h s tv v T L)(hL:L.length≤1000)(hQ:Q (.cn [.int .i64 (qv L).1,.bool (qv L).2]) h):VD fs ms 63 [.ptr s 0] h Q:=by
 refine aj (af:=VJ) true rfl (yB rfl) ?_;conv=>whnf
 refine⟨_,aS S.st rfl,?_⟩;conv=>whnf
 rw[GR.len S.en];conv=>whnf
 refine br (fun hc=>?_) (fun hc=>?_)<;>(try rw[hc])<;>(conv=>whnf)
 ·have hz:L=[]:=by rw[bu] at hc;exact List.eq_nil_of_length_eq_zero (by simpa using hc)
  subst hz;exact hQ
 ·have hz:¬L.length=0:=by rw[bu] at hc;simpa using hc
  have hw:IntKind.i64.wrap ((((dJ L).length:Nat):Int)-1)=((L.length-1:Nat):Int):=by
   rw[bu,IntWalk.i64_in _ (by omega)];omega
  obtain⟨b,sZ,oz⟩:=GR.at S.en (fq L) (i:=L.length-1) (by rw[bu];omega);have Av:=oz 0 (.int .i64 L[L.length-1].1) (by simp[dJ,en,AV.cells]);rw[←hw] at sZ;have ht:qv L=(L[L.length-1].1,true):=by
   rw[qv,List.getLast?_eq_getElem?,List.getElem?_eq_getElem (by omega)]
  rw[ht] at hQ;refine⟨_,aS S.st rfl,?_⟩;conv=>whnf
  refine⟨_,aS S.st rfl,?_⟩;conv=>whnf
  rw[GR.len S.en];conv=>whnf
  refine⟨_,sZ,?_⟩;conv=>whnf
  refine⟨_,Av,?_⟩;conv=>whnf
  exact hQ
end
section
variable {h h':Heap} {s:Nat} {tv v:AV} {T:List Tk} {L:List En} {Q:AV→Heap→Prop} {t:Int}
set_option smartUnfolding true in
theorem JO{e:Env}{h:Heap}{a:Nat}{v:AV}(ha:Tr.get e a=some v):dX e h [.tmp a]=some [v]:=by simp only[dX,nY,ha,Option.map_some]
theorem My{L:List En}{r:Int}{j:Nat}(h:j<L.length):(L.drop j).any (fun x=>x.2==r)=(L[j].2==r||(L.drop (j+1)).any (fun x=>x.2==r)):=by
 rw[List.drop_eq_getElem_cons h];rfl
theorem J8{r:Int}(S:qA h s tv v T L)(hL:L.length≤900){B:Nat}{Q:AX→Env→Heap→Prop}(hQ:∀e',L.any (fun x=>x.2==r)=false→dr e' [(0,.ptr s 0),(1,.int .i64 t),(2,.int .i64 r)]→Q (.exit 0) e' h)(hE:∀e',L.any (fun x=>x.2==r)=true→dr e' [(6,.int .i64 131)]→Q .ret e' h):
  ∀(m j:Nat) (env:Env),L.length-j=m→j≤L.length→(L.drop j).any (fun x=>x.2==r)=L.any (fun x=>x.2==r)→dr env [(0,.ptr s 0),(1,.int .i64 t),(2,.int .i64 r),(7,.int .i64 ((j:Nat):Int))]→VC fs ms B false (.loop eX) env h Q:=by
 intro m;induction m with
 |zero=>
  intro j env hm hj ha dF;have hjl:j=L.length:=by omega
  subst hjl;rw[List.drop_length] at ha;refine aG 5 _ dF ?_;refine cS (an (z:=true) ?_);conv=>whnf
  refine⟨_,aS S.st rfl,?_⟩;conv=>whnf
  rw[GR.len S.en];conv=>whnf
  refine nC (by simp[bu]) (fun hc=>?_)
  (try rw[hc])
  conv=>whnf
  exact hQ _ ha.symm ⟨rfl,rfl,rfl,trivial⟩
 |succ m ih=>
  intro j env hm hj ha dF;have hlt:j<L.length:=by omega
  rw[My hlt] at ha;obtain⟨b,sZ,oz⟩:=GR.at S.en (fq L) (i:=j) (by rw[bu];exact hlt);have Eg:=oz 1 (.int .i64 L[j].2) (by simp[dJ,en,AV.cells]);refine aG 5 _ dF ?_;refine cS (aE true ?_);conv=>whnf
  refine⟨_,aS S.st rfl,?_⟩;conv=>whnf
  rw[GR.len S.en];conv=>whnf
  refine qq (by simp[bu];omega) (fun hc=>?_)
  (try rw[hc])
  conv=>whnf
  refine bt (bw (an (z:=true) ?_));conv=>whnf
  refine⟨_,aS S.st rfl,?_⟩;conv=>whnf
  refine⟨_,sZ,?_⟩;conv=>whnf
  refine⟨_,Eg,?_⟩;conv=>whnf
  refine br (fun hc=>?_) (fun hc=>?_)<;>(try rw[hc])<;>(conv=>whnf)
  ·rw[hc,Bool.true_or] at ha;exact hE _ ha.symm ⟨rfl,trivial⟩
  ·rw[hc,Bool.false_or] at ha;refine an (z:=true) ?_;conv=>whnf
   refine ih (j+1) _ (by omega) (by omega) ha ⟨rfl,rfl,rfl,aJ (by omega),trivial⟩
theorem J7{r:Int}(S:qA h s tv v T L)(hT:T.length<2^62)(hL:L.length≤900)(hH:(bx L t).length≤4)
  (h0:fm T L t r≠0→∀h',Fr h h' []→Q (.int .i64 (fm T L t r)) h')
  (h1:fm T L t r=0→∀h' v',qA h' s tv v' T (L++[(t,r)])→Fr h h' (s::dM v)→(∀d,d∈dM v'→h.next≤d)→Q (.int .i64 0) h'):VD fs ms 121 [.ptr s 0,.int .i64 t,.int .i64 r] h Q:=by
 refine bX (af:=Ld) rfl (yB rfl) ?_;conv=>whnf
 refine aE true ?_;conv=>whnf
 have CV:cw T t=9→∀h',Fr h h' []→Q (.int .i64 9) h':=fun hn h' fr=>by
  have e:fm T L t r=9:=by rw[fm,if_pos (by simp[hn]),hn]
  rw[e] at h0;exact h0 (by decide) h' fr
 refine bt (aE true ?_);conv=>whnf
 refine br (fun hc=>?_) (fun hc=>?_)<;>(try rw[hc])<;>(conv=>whnf)
 ·refine gW ?_;conv=>whnf
  refine an (z:=true) ?_;conv=>whnf
  exact CV (by rw[cw,hc];rfl) h (Fr.refl _ _)
 have hneg:=hc;refine⟨_,aS S.st rfl,?_⟩;conv=>whnf
 rw[S.tr.len];conv=>whnf
 refine gW ?_;conv=>whnf
 refine br (fun hc=>?_) (fun hc=>?_)<;>(try rw[hc])<;>(conv=>whnf)
 ·refine an (z:=true) ?_;conv=>whnf
  exact CV (by rw[cw,hneg,hc];rfl) h (Fr.refl _ _)
 have ha:cw T t=0:=by rw[cw,hneg,hc];rfl
 have hlk:fm T L t r=if !uses T t r then 133 else if L.any (fun x=>x.2==r) then 131 else if decide (((bx L t).length:Int)≥4) then 130 else 0:=by rw[fm,if_neg (by simp[ha])]
 obtain⟨kT,hf⟩:=S.tr.SG;refine an (z:=true) ?_;conv=>whnf
 refine bt (aE true ?_);conv=>whnf
 refine⟨_,aS S.st rfl,?_⟩;conv=>whnf
 refine fQ (Ca kT T hT t r) rfl (.cons hf (.cons (.clean rfl) (.cons (.clean rfl) .nil))) ?_;conv=>whnf
 refine gW ?_;conv=>whnf
 refine br (fun hc=>?_) (fun hc=>?_)<;>(try rw[hc])<;>(conv=>whnf)
 ·rw[if_pos hc] at hlk;rw[hlk] at h0;refine an (z:=true) ?_;conv=>whnf
  exact h0 (by decide) h (Fr.refl _ _)
 rw[if_neg (by rw[hc];simp)] at hlk;refine an (z:=true) ?_;conv=>whnf
 refine bt (aE true ?_);conv=>whnf
 refine bw ?_;refine J8 (t:=t) S hL (fun e' Ic he=>?_) (fun e' Ic he=>?_) L.length 0 _ rfl (Nat.zero_le _) rfl ⟨rfl,rfl,rfl,rfl,trivial⟩
 rotate_left
 ·rw[if_pos Ic] at hlk;rw[hlk] at h0;conv=>whnf
  refine dL (v:=[.int .i64 131]) (JO he.1) ?_;exact h0 (by decide) h (Fr.refl _ _)
 rw[if_neg (by rw[Ic];simp)] at hlk;show VC fs ms _ false _ _ _ _;refine aG 4 _ he ?_;refine bt (aE true ?_);conv=>whnf
 refine nh S (by omega) fun uU w H7 dy=>?_;conv=>whnf
 rw[GR.len H7];conv=>whnf
 rw[bH];refine gW ?_;conv=>whnf
 refine br (fun hc=>?_) (fun hc=>?_)<;>(try rw[hc])<;>(conv=>whnf)
 ·have h4:(bx L t).length=4:=by have:=eq_of_beq hc;omega
  rw[if_pos (by simp[h4])] at hlk;rw[hlk] at h0;refine an (z:=true) ?_;conv=>whnf
  exact h0 (by decide) uU dy
 have h4:¬(bx L t).length=4:=by
  intro h;rw[h] at hc;exact absurd hc (by decide)
 rw[if_neg (by simp;omega)] at hlk;have S1:=S.nil dy;obtain⟨v',g',hap,Nc,ey⟩:=GR.Tm (bytes:=16) S1.en (x:=en (t,r)) rfl rfl (fq L) (by rw[bu];omega) (by rw[bu];omega);obtain⟨c1,c2,c3⟩:=GR.RP Nc;refine an (z:=true) ?_;conv=>whnf
 refine an (z:=true) ?_;conv=>whnf
 refine⟨_,aS S1.st rfl,?_⟩;conv=>whnf
 refine⟨_,_,hap,?_⟩;conv=>whnf
 have gs:g'.get s=some (.cells [tv,v] true 0):=(ey.keep s S1.lt S1.nv).trans S1.st;refine bV (bp gs c2 (by show 0+0+1+1≤2;omega) c3) fun h3 e3=>?_;have g3:h3.get s=some (.cells [tv,v'] true 0):=by rw[e3,au,c1];rfl
 have f3:Fr g' h3 [s]:=by rw[e3];exact(Fr.refl g' _).set (by simp)
 clear e3;conv=>whnf
 have f13:Fr uU h3 (s::dM v):=⟨Nat.le_trans ey.next f3.next,fun c hc hn=>(f3.keep c (Nat.lt_of_lt_of_le hc ey.next) (by simp at hn;simp[hn.1])).trans (ey.keep c hc (by simp at hn;exact hn.2))⟩;have rR:∀d,d∈dM v'→uU.next≤d:=fun d hd=>(GR.Gg Nc hd).1;refine h1 hlk h3 v' ⟨?_,g3,S1.tr.keep f13 (fun c hc=>?_),?_,S.nt⟩ ⟨Nat.le_trans dy.next f13.next,fun c hc hn=>(f13.keep c (Nat.lt_of_lt_of_le hc dy.next) hn).trans (dy.keep c hc (by simp))⟩ (fun d hd=>Nat.le_trans dy.next (rR d hd))
 ·exact Nat.lt_of_lt_of_le S1.lt f13.next
 ·simp only[List.mem_cons,not_or];exact⟨fun e=>S.nt (e▸hc),S1.ntv c hc⟩
 ·have hg:GR 2 uU.next g' v' (dJ (L++[(t,r)])):=by rw[dJ,List.map_append];exact Nc
  exact GR.WA hg (Nat.zero_le _) f3.next fun d hd=>f3.keep d (GR.Gg Nc hd).2.1 (by have:=rR d hd;have:=S1.lt;simp;omega)
end
end Ir
end Go.Proofs.YtnlcabhfkpafmaaGreat
namespace Go.Proofs.YtnlcabhfkpafmaaGreat
open Go Ads
namespace Ads
theorem P2{h:Heap}{s bytes b m n:Nat}{vs cs:List AV}{x:AV}(hg:h.get b=some (.cells vs true s))(hv:vs.length=m*s)(hsrc:dm s h x=some (n+1,cs))(hf:bz cs=true)(hb:(m+(n+1))*bytes≤140737488355328)(hm:m+(n+1)≤140737488355328):
  eV (.append s bytes) [.sl b 0 m m true,x] h=some (.sl h.next 0 (m+(n+1)) (m+(n+1)) true,(h.del b).new (.cells (vs++cs) true s)):=by
 have b1:Nat.ble (m+(n+1)) m=false:=by cases hb:Nat.ble (m+(n+1)) m with|false=>rfl|true=>(have:=Nat.le_of_ble_eq_true hb;omega)
 have b2:Nat.ble ((m+(n+1))*bytes) 140737488355328=true:=Nat.ble_eq_true_of_le hb;have b3:Nat.ble (m+(n+1)) 9223372036854775807=true:=Nat.ble_eq_true_of_le (by omega);have b4:Nat.ble (0+m*s) vs.length=true:=Nat.ble_eq_true_of_le (by omega);have b5:Nat.beq vs.length (0+m*s)=true:=by rw[hv,Nat.zero_add];exact Nat.beq_refl _
 have oz:h.aY b 0 (m*s)=some vs:=by
  simp only[Heap.aY,Heap.row,hg,b4,cond_true,List.drop_zero];rw[←hv,List.take_length]
 simp only[eV,l2,hsrc];show cond (bz cs) _ _=_;rw[hf,cond_true];show cond (Nat.beq (n+1) 0&&Nat.ble m m) _ _=_;rw[show Nat.beq (n+1) 0=false from rfl,Bool.false_and,cond_false,b1,cond_false,b2,b3,Bool.and_self,cond_true,hg,oz];show cond true (cond (true&&Nat.beq vs.length (0+m*s)&&Nat.beq m m&&Nat.beq s s) _ _) _=_;rw[b5,Nat.beq_refl,Nat.beq_refl];rfl
theorem GR.Tl{s bytes lo:Nat}{h:Heap}{v x:AV}{M X:List AV}(hr:GR s lo h v M)(hlo:lo≤h.next)(hsrc:dm s h x=some (X.length,aa X))(hf:bz (aa X)=true)(hs:aN s M=true)(hl:(M.length+X.length)*bytes≤140737488355328)(hm:M.length+X.length≤140737488355328):
  ∃v' g',eV (.append s bytes) [v,x] h=some (v',g')∧GR s lo g' v' (M++X)∧h.next≤g'.next∧∀c,c<lo→g'.get c=h.get c:=by
 rcases hr with⟨rfl,rfl⟩|⟨FQ,b,h1,h2,rfl,h4⟩
 ·have:=mS (bytes:=bytes) hsrc hf (by simpa using hl) (by simpa using hm);by_cases hz:X.length=0
  ·rw[if_pos hz] at this;have hX:X=[]:=List.eq_nil_of_length_eq_zero hz;subst hX;exact⟨_,_,this,.inl ⟨rfl,rfl⟩,Nat.le_refl _,fun c _=>rfl⟩
  ·rw[if_neg hz] at this;exact⟨_,_,this,.inr ⟨fun h=>hz (by rw[List.nil_append] at h;rw[h];rfl),h.next,hlo,Nat.lt_succ_self _,rfl,ai⟩,Nat.le_succ _,fun c hc=>az (by omega)⟩
 ·cases X with
  |nil=>
   refine⟨.sl b 0 M.length M.length true,h,?_,.inr ⟨by simpa using FQ,b,h1,h2,by simp,by simpa using h4⟩,Nat.le_refl _,fun c _=>rfl⟩;have Uh:dm s h x=some (0,aa []):=hsrc;simp only[eV,l2,Uh];show cond (bz (aa [])) (cond (Nat.beq 0 0&&Nat.ble M.length M.length) _ _) _=_;rw[hf,Nat.ble_eq_true_of_le (Nat.le_refl _)];rfl
  |cons y X=>
   refine⟨_,_,P2 (n:=X.length) h4 (jh hs) hsrc hf hl hm,.inr ⟨by simp,h.next,hlo,Nat.lt_succ_self _,by rw[List.length_append];rfl,?_⟩,Nat.le_succ _,fun c hc=>?_⟩
   ·have:=ai (h:=h.del b) (x:=.cells (aa M++aa (y::X)) true s);rw[show(h.del b).next=h.next from rfl] at this;rw[this,lI]
   ·have hne:c≠b:=by omega
    exact(az (h:=h.del b) (show c<h.next by omega)).trans (oU hne)
theorem Kl{s b n i:Nat}(hi:i≤n):pV (.slice s false true false) [.sl b 0 n n true,.int .i64 ((i:Nat):Int)]=some (.sl b 0 i n true):=by
 have h0:asNat (.int .i64 ((i:Nat):Int))=some i:=by simp[asNat]
 have hb:bounds n n false true false [.int .i64 ((i:Nat):Int)]=some (0,i,n):=by
  simp only[bounds,h0,Option.map_some];rw[Nat.ble_eq_true_of_le (Nat.zero_le _),Nat.ble_eq_true_of_le hi,Nat.ble_eq_true_of_le (Nat.le_refl _)];rfl
 show lQ s false true false (.sl b 0 n n true) [.int .i64 ((i:Nat):Int)]=_;simp only[lQ,KF,hb,Bool.not_false,cond_false];have:(Nat.beq n 0&&Nat.beq n n&&(true&&true&&!Nat.beq 0 0))=false:=by simp
 rw[this];have Cp:0+cond (Nat.beq n 0) 0 (0*s)=0:=by cases Nat.beq n 0<;>simp
 simp only[cond_false,Cp,Nat.sub_zero]
theorem Kk{s b n lo:Nat}{h:Heap}{vs:List AV}{wr:Bool}{es:Nat}(hg:h.get b=some (.cells vs wr es))(hv:vs.length=n*s)(hl:lo≤n):∃x,pV (.slice s true false false) [.sl b 0 n n true,.int .i64 ((lo:Nat):Int)]=some x∧∀h':Heap,h'.get b=h.get b→dm s h' x=some (n-lo,vs.drop (lo*s)):=by
 have h0:asNat (.int .i64 ((lo:Nat):Int))=some lo:=by simp[asNat]
 have hb:bounds n n true false false [.int .i64 ((lo:Nat):Int)]=some (lo,n,n):=by
  simp only[bounds,h0,Option.map_some];rw[Nat.ble_eq_true_of_le hl,Nat.ble_eq_true_of_le (Nat.le_refl _)];rfl
 have hp:pV (.slice s true false false) [.sl b 0 n n true,.int .i64 ((lo:Nat):Int)]=some (cond (Nat.beq n lo&&Nat.beq n n&&(true&&true&&!Nat.beq lo 0)) (.rest b 0 (lo*s)) (.sl b (0+cond (Nat.beq n lo) 0 (lo*s)) (n-lo) (n-lo) true)):=by
  show lQ s true false false (.sl b 0 n n true) [.int .i64 ((lo:Nat):Int)]=_;simp only[lQ,KF,hb,Bool.not_false,cond_false];cases(Nat.beq n lo&&Nat.beq n n&&(true&&true&&!Nat.beq lo 0))<;>rfl
 refine⟨_,hp,fun h' hh=>?_⟩;cases hc:Nat.beq n lo with
 |true=>
  have hn:=Nat.eq_of_beq_eq_true hc;have hd:vs.drop (lo*s)=[]:=List.eq_nil_of_length_eq_zero (by rw[List.length_drop,hv,hn];omega);rw[hd,hn,Nat.sub_self];cases(true&&Nat.beq lo lo&&(true&&true&&!Nat.beq lo 0)) with
  |true=>rfl
  |false=>
   show(h'.aY b _ (0*s)).map _=_;rw[Nat.zero_mul,bQ (hh.trans hg) (by simp)];simp
 |false=>
  simp only[Bool.false_and,cond_false,Nat.zero_add];have hm:lo*s+(n-lo)*s=n*s:=by rw[←Nat.add_mul];congr 1;omega
  show(h'.aY b (lo*s) ((n-lo)*s)).map _=_;rw[bQ (hh.trans hg) (by omega)];simp only[Option.map_some];rw[List.take_of_length_le (by rw[List.length_drop];omega)]
theorem yq{s:Nat}:∀{M:List AV} {i:Nat},aN s M=true→(aa M).drop (i*s)=aa (M.drop i)
 |M,0,_=>by simp
 |[],i+1,_=>by simp[aa]
 |x::M,i+1,hs=>by
  have hx:x.cells.length=s∧aN s M=true:=by simpa[aN] using hs
  show(x.cells++aa M).drop ((i+1)*s)=aa (M.drop i);rw[show(i+1)*s=x.cells.length+i*s by rw[hx.1,Nat.add_mul];omega,←List.drop_drop,List.drop_left',yq hx.2];rfl
theorem yu{s:Nat}:∀{M:List AV} {i:Nat},aN s M=true→(aa M).take (i*s)=aa (M.take i)
 |M,0,_=>by simp[aa]
 |[],i+1,_=>by simp[aa]
 |x::M,i+1,hs=>by
  have hx:x.cells.length=s∧aN s M=true:=by simpa[aN] using hs
  show(x.cells++aa M).take ((i+1)*s)=x.cells++aa (M.take i);rw[show(i+1)*s=x.cells.length+i*s by rw[hx.1,Nat.add_mul];omega,List.take_length_add_append,yu hx.2]
end Ads
namespace Ir
section
variable {h h':Heap} {s:Nat} {tv v:AV} {T:List Tk} {L:List En} {Q:AV→Heap→Prop} {t:Int}
theorem OF(S:qA h s tv v T L)(hL:L.length≤900){B:Nat}{Q:AX→Env→Heap→Prop}(hQ:∀e',dw L t<0→Q (.exit 0) e' h)
  (hR:∀e' h' v' i (hi:i<L.length),dw L t=((i:Nat):Int)→qA h' s tv v' T (L.eraseIdx i)→Fr h h' [s]→(∀d,d∈dM v'→h.next≤d)→dr e' [(4,.int .i64 L[i].2),(5,.int .i64 0)]→Q .ret e' h'):
  ∀(k:Nat) (J:Int) (env:Env),J=(k:Int)-1→k≤L.length→dw L t=jq L t k→dr env [(0,.ptr s 0),(1,.int .i64 t),(6,.int .i64 J)]→VC fs ms B false (.loop eA) env h Q:=by
 intro k;induction k with
 |zero=>
  intro J env hJ hk hl dF;refine aG 5 _ dF ?_;refine cS (an (z:=true) ?_);conv=>whnf
  refine nC (by simp;omega) (fun hc=>?_)
  (try rw[hc])
  conv=>whnf
  exact hQ _ (by rw[hl];show(-1:Int)<0;decide)
 |succ k ih=>
  intro J env hJ hk hl dF;have hJ:J=((k:Nat):Int):=by omega
  subst hJ;have hlt:k<L.length:=by omega
  have Iy:jq L t (k+1)=if(L[k].1==t) then((k:Nat):Int) else jq L t k:=by rw[jq,List.getElem?_eq_getElem hlt]
  obtain⟨b,sZ,oz⟩:=GR.at S.en (fq L) (i:=k) (by rw[bu];exact hlt);have Av:=oz 0 (.int .i64 L[k].1) (by simp[dJ,en,AV.cells]);have Eg:=oz 1 (.int .i64 L[k].2) (by simp[dJ,en,AV.cells]);have hw:IntKind.i64.wrap (((k:Nat):Int)-1)=(k:Int)-1:=IntWalk.i64_in _ (by omega);have hw2:IntKind.i64.wrap (((k:Nat):Int)+1)=((k+1:Nat):Int):=by rw[IntWalk.i64_in _ (by omega)];omega
  refine aG 5 _ dF ?_;refine cS (aE true ?_);conv=>whnf
  refine bt (bw (aE true ?_));conv=>whnf
  refine⟨_,aS S.st rfl,?_⟩;conv=>whnf
  refine⟨_,sZ,?_⟩;conv=>whnf
  refine⟨_,Av,?_⟩;conv=>whnf
  refine gW ?_;conv=>whnf
  refine br (fun hc=>?_) (fun hc=>?_)<;>(try rw[hc])<;>(conv=>whnf)
  rotate_left
  ·rw[if_neg (by simpa using hc)] at Iy;refine an (z:=true) ?_;conv=>whnf
   refine an (z:=true) ?_;conv=>whnf
   exact ih _ _ hw (by omega) (hl.trans Iy) ⟨rfl,rfl,rfl,trivial⟩
  rw[if_pos hc] at Iy;have QN:=S.en;rcases QN with⟨h0,_⟩|⟨_,c,k1,k2,rfl,k4⟩
  ·rw[←List.length_eq_zero_iff,bu] at h0;omega
  have hvl:(aa (dJ L)).length=(dJ L).length*2:=jh (fq L);have hp1:=Kl (s:=2) (b:=c) (n:=(dJ L).length) (i:=k) (by rw[bu];omega);obtain⟨x2,SO,uN⟩:=Kk (s:=2) (lo:=k+1) k4 hvl (by rw[bu];omega);rw[←hw2] at SO;have rQ:dm 2 h (.sl c 0 k (dJ L).length true)=some (((dJ L).take k).length,aa ((dJ L).take k)):=by
   have hk2:((dJ L).take k).length=k:=by rw[List.length_take,bu];omega
   rw[Ai k4 (by rw[hvl,bu];omega),hk2,List.drop_zero,yu (fq L)]
  have Pv:∀M:List En,bz (aa (dJ M))=true:=yp;have e1:(dJ L).take k=dJ (L.take k):=by rw[dJ,dJ,List.map_take]
  have e2:(dJ L).drop (k+1)=dJ (L.drop (k+1)):=by rw[dJ,dJ,List.map_drop]
  rw[e1] at rQ;refine an (z:=true) ?_;conv=>whnf
  refine⟨_,aS S.st rfl,?_⟩;conv=>whnf
  refine⟨_,sZ,?_⟩;conv=>whnf
  refine⟨_,Eg,?_⟩;conv=>whnf
  refine⟨_,aS S.st rfl,?_⟩;conv=>whnf
  refine⟨_,hp1,?_⟩;conv=>whnf
  obtain⟨o1,g1,ha1,H7,KM,xC⟩:=GR.Tl (bytes:=16) (lo:=h.next) (h:=h) (v:=.aK) (M:=[]) (.inl ⟨rfl,rfl⟩) (Nat.le_refl _) rQ (Pv _) rfl (by rw[bu,List.length_take];simp;omega) (by rw[bu,List.length_take];simp;omega);refine⟨_,_,ha1,?_⟩;rw[List.nil_append] at H7;have Z4:g1.get s=some (.cells [tv,.sl c 0 (dJ L).length (dJ L).length true] true 0):=(xC s S.lt).trans S.st;have hs3:=uN g1 (xC c k2);rw[yq (fq L),e2,show(dJ L).length-(k+1)=(dJ (L.drop (k+1))).length by rw[bu,bu,List.length_drop]] at hs3;conv=>whnf
  refine⟨_,aS Z4 rfl,?_⟩;conv=>whnf
  refine⟨_,SO,?_⟩;conv=>whnf
  obtain⟨o2,g2,ha2,Nc,hn2,hk2⟩:=GR.Tl (bytes:=16) H7 KM hs3 (Pv _) (fq _) (by rw[bu,bu,List.length_take,List.length_drop];omega) (by rw[bu,bu,List.length_take,List.length_drop];omega);refine⟨_,_,ha2,?_⟩;have gs2:g2.get s=some (.cells [tv,.sl c 0 (dJ L).length (dJ L).length true] true 0):=(hk2 s S.lt).trans Z4;obtain⟨c1,c2,c3⟩:=GR.RP Nc;conv=>whnf
  refine bV (bp gs2 c2 (by show 0+0+1+1≤2;omega) c3) fun h3 e3=>?_;have g3:h3.get s=some (.cells [tv,o2] true 0):=by rw[e3,au,c1];rfl
  have f3:Fr g2 h3 [s]:=by rw[e3];exact(Fr.refl g2 _).set (by simp)
  clear e3;conv=>whnf
  have f13:Fr h h3 [s]:=⟨Nat.le_trans KM (Nat.le_trans hn2 f3.next),fun d hd hn=>(f3.keep d (by omega) hn).trans ((hk2 d hd).trans (xC d hd))⟩;have rR:∀d,d∈dM o2→h.next≤d:=fun d hd=>(GR.Gg Nc hd).1;refine hR _ h3 o2 k hlt (hl.trans Iy) ⟨Nat.lt_of_lt_of_le S.lt f13.next,g3,S.tr.keep f13 (fun d hd=>by simp only[List.mem_singleton];exact fun e=>S.nt (e▸hd)),?_,S.nt⟩ f13 rR ⟨rfl,rfl,trivial⟩;have hg:GR 2 h.next g2 o2 (dJ (L.eraseIdx k)):=by rw[List.eraseIdx_eq_take_drop_succ,dJ,List.map_append];exact Nc
  exact GR.WA hg (Nat.zero_le _) f3.next fun d hd=>f3.keep d (GR.Gg Nc hd).2.1 (by have:=rR d hd;have:=S.lt;simp;omega)
end
set_option smartUnfolding true in
theorem JQ{e:Env}{h:Heap}{a b:Nat}{v w:AV}(ha:Tr.get e a=some v)(hb:Tr.get e b=some w):dX e h [.tmp a,.tmp b]=some [v,w]:=by
 simp only[dX,nY,ha,hb]
section
variable {h h':Heap} {s:Nat} {tv v:AV} {T:List Tk} {L:List En} {Q:AV→Heap→Prop} {t:Int}
theorem EX(S:qA h s tv v T L)(hL:L.length≤900)(h0:iT T L t≠0→Q (.cn [.int .i64 0,.int .i64 (iT T L t)]) h)
  (h1:iT T L t=0→∀i (hi:i<L.length),dw L t=((i:Nat):Int)→∀h' v',qA h' s tv v' T (L.eraseIdx i)→Fr h h' [s]→(∀d,d∈dM v'→h.next≤d)→Q (.cn [.int .i64 L[i].2,.int .i64 0]) h'):VD fs ms 123 [.ptr s 0,.int .i64 t] h Q:=by
 refine bX (af:=Lf) rfl (yB rfl) ?_;conv=>whnf
 refine aE true ?_;conv=>whnf
 have CV:cw T t=9→Q (.cn [.int .i64 0,.int .i64 9]) h:=fun hn=>by
  have e:iT T L t=9:=by rw[iT,if_pos (by simp[hn]),hn]
  rw[e] at h0;exact h0 (by decide)
 refine bt (aE true ?_);conv=>whnf
 refine br (fun hc=>?_) (fun hc=>?_)<;>(try rw[hc])<;>(conv=>whnf)
 ·refine gW ?_;conv=>whnf
  refine an (z:=true) ?_;conv=>whnf
  exact CV (by rw[cw,hc];rfl)
 have hneg:=hc;refine⟨_,aS S.st rfl,?_⟩;conv=>whnf
 rw[S.tr.len];conv=>whnf
 refine gW ?_;conv=>whnf
 refine br (fun hc=>?_) (fun hc=>?_)<;>(try rw[hc])<;>(conv=>whnf)
 ·refine an (z:=true) ?_;conv=>whnf
  exact CV (by rw[cw,hneg,hc];rfl)
 have ha:cw T t=0:=by rw[cw,hneg,hc];rfl
 have hu:iT T L t=if decide (dw L t<0) then 132 else 0:=by rw[iT,if_neg (by simp[ha])]
 refine an (z:=true) ?_;conv=>whnf
 refine bt (aE true ?_);conv=>whnf
 refine⟨_,aS S.st rfl,?_⟩;conv=>whnf
 rw[GR.len S.en,bu];conv=>whnf
 have hw:IntKind.i64.wrap (((L.length:Nat):Int)-1)=(L.length:Int)-1:=IntWalk.i64_in _ (by omega);refine bw ?_;refine OF S hL (fun e' hl=>?_) (fun e' h' v' i hi hla S' f hv he=>?_) L.length _ _ hw (Nat.le_refl _) rfl ⟨rfl,rfl,rfl,trivial⟩
 ·rw[if_pos (by simpa using hl)] at hu;rw[hu] at h0;show VC fs ms _ false _ _ _ _;refine aG 3 [] trivial (an (z:=true) ?_);conv=>whnf
  exact h0 (by decide)
 ·rw[if_neg (by simp;omega)] at hu;conv=>whnf
  refine dL (v:=[.int .i64 L[i].2,.int .i64 0]) (JQ he.1 he.2.1) ?_;exact h1 hu i hi hla h' v' S' f hv
set_option smartUnfolding true in
theorem yY{n:Nat}:∀{M:List AV} {x:AV},aN n M=true→x.cells.length=n→aN n (M++[x])=true
 |[],x,_,hx=>by simp[aN,hx]
 |y::M,x,hs,hx=>by
  have h1:y.cells.length=n∧aN n M=true:=by simpa[aN] using hs
  have:=yY h1.2 hx;simp[aN,h1.1,this]
theorem Il{L:List En}{t:Int}(h:dw L t<0):bx L t=[]:=by
 rw[bx,List.filter_eq_nil_iff.2]
 ·rfl
 ·intro x hx;obtain⟨i,hi,rfl⟩:=List.getElem_of_mem hx;rw[ru L t L.length (Nat.le_refl _) h i hi hi];simp
theorem Im{L:List En}{t:Int}{i:Nat}(hi:i<L.length)(h:dw L t=((i:Nat):Int)):bx L t≠[]:=by
 have:=sC L t L.length (Nat.le_refl _) i hi h;intro hz;have hm:L[i].2∈bx L t:=List.mem_map.2 ⟨L[i],List.mem_filter.2 ⟨List.getElem_mem hi,this⟩,rfl⟩;rw[hz] at hm;simp at hm
theorem NF(L:List En)(t:Int):dw L t<0∨∃i,i<L.length∧dw L t=((i:Nat):Int):=by
 rcases wg L t L.length (Nat.le_refl _) with h|h
 ·exact .inl (by rw[dw,h];decide)
 ·exact .inr h
theorem J0{h0:Heap}{v0:AV}{L0:List En}(S0:qA h0 s tv v0 T L0)(ha:cw T t=0){B:Nat}{Q:AX→Env→Heap→Prop}(hQ:∀e' h' v' w,qA h' s tv v' T (jF L0 t)→Fr h0 h' [s]→(∀d,d∈dM v'→d∈dM v0∨h0.next≤d)→dr e' [(5,w)]→Q (.exit 0) e' h'):
  ∀(m:Nat) (L:List En) (M:List AV) (h:Heap) (env:Env) (v w:AV),L.length≤m→M.length+L.length≤900→qA h s tv v T L→Fr h0 h [s]→(∀d,d∈dM v→d∈dM v0∨h0.next≤d)→jF L t=jF L0 t→GR 1 h0.next h w M→aN 1 M=true→dr env [(0,.ptr s 0),(1,.int .i64 t),(5,w)]→
   VC fs ms B false (.loop eU) env h Q:=by
 intro m;induction m with
 |zero=>
  intro L M h env v w hm hb S fr hv hd hr hs dF;have hL:L=[]:=List.eq_nil_of_length_eq_zero (by omega);subst hL;refine aG 5 _ dF ?_;refine cS (an (z:=true) ?_);conv=>whnf
  refine nh S (by simp) fun h1 w1 H7 dy=>?_;conv=>whnf
  rw[GR.len H7];conv=>whnf
  refine hQ _ h1 v w (hd▸S.nil dy) (fr.trans ⟨dy.next,fun c hc _=>dy.keep c hc (by simp)⟩) hv ⟨rfl,trivial⟩
 |succ m ih=>
  intro L M h env v w hm hb S fr hv hd hr hs dF;refine aG 5 _ dF ?_;rcases NF L t with hl|⟨i,hi,hl⟩
  ·have hz:=Il hl;refine cS (an (z:=true) ?_);conv=>whnf
   refine nh S (by omega) fun h1 w1 H7 dy=>?_;rw[hz] at H7;conv=>whnf
   rw[GR.len H7];conv=>whnf
   rw[yh hl] at hd;refine hQ _ h1 v w (hd▸S.nil dy) (fr.trans ⟨dy.next,fun c hc _=>dy.keep c hc (by simp)⟩) hv ⟨rfl,trivial⟩
  ·have hne:=Im hi hl;have hpos:0<(bx L t).length:=List.length_pos_iff.2 hne;refine cS (aE true ?_);conv=>whnf
   refine nh S (by omega) fun h1 w1 H7 dy=>?_;conv=>whnf
   rw[GR.len H7,bH];conv=>whnf
   refine qq (by simp;omega) (fun hc=>?_)
   (try rw[hc])
   conv=>whnf
   have S1:=S.nil dy;have Bp:GR 1 h0.next h1 w M:=hr.keep dy (by simp);have Tx:Fr h0 h1 [s]:=fr.trans ⟨dy.next,fun c hc _=>dy.keep c hc (by simp)⟩;refine bw (aE true ?_);conv=>whnf
   have hu:iT T L t=0:=by rw[iT,if_neg (by simp[ha]),if_neg (by simp;omega)]
   refine EX S1 (by omega) (fun h=>(h hu).elim) (fun _ i' hi' hl' h2 v2 S2 ey IU=>?_);have:i'=i:=by omega
   subst this;conv=>whnf
   have xD:GR 1 h0.next h2 w M:=by
    rcases Bp with h|⟨q0,b,q1,q2,q3,q4⟩
    ·exact .inl h
    ·exact .inr ⟨q0,b,q1,Nat.lt_of_lt_of_le q2 ey.next,q3,(ey.keep b q2 (by simp;have:=S0.lt;omega)).trans q4⟩
   have Na:=Tx.trans ey;obtain⟨w',g',hap,Yw,fr'⟩:=GR.Tm (bytes:=8) xD (x:=.int .i64 L[i'].2) rfl rfl hs (by omega) (by omega);refine an (z:=true) ?_;conv=>whnf
   refine⟨_,_,hap,?_⟩;conv=>whnf
   have w2:∀c,c∈dM w→h0.next≤c∧∃cs,h2.get c=some (.cells cs true 1):=fun c hc=>⟨(GR.Gg xD hc).1,_,(GR.Gg xD hc).2.2⟩;have S3:qA g' s tv v2 T (L.eraseIdx i'):=by
    refine S2.keep fr' (fun hm=>?_) (fun c hc hm=>?_) (fun c hc hm=>?_)
    ·have:=(w2 s hm).1;have:=S0.lt;omega
    ·obtain⟨_,cs,hg⟩:=w2 c hm;rcases S2.tr with⟨_,h2|⟨b,h2,_,h4⟩⟩|⟨b,op,h2,_,h4⟩
     ·rw[h2] at hc;simp[dM] at hc
     ·rw[h2] at hc;simp[dM] at hc;subst hc;rw[h4] at hg;simp at hg
     ·rw[h2] at hc;simp[dM] at hc;subst hc;rw[h4] at hg;simp at hg
    ·obtain⟨_,cs,hg⟩:=w2 c hm;have:=(GR.Gg S2.en hc).2.2;rw[this] at hg;simp at hg
   have Yr:Fr h0 g' [s]:=⟨Nat.le_trans Na.next fr'.next,fun c hc hn=>(fr'.keep c (Nat.lt_of_lt_of_le hc Na.next) (fun hm=>by have:=(w2 c hm).1;omega)).trans (Na.keep c hc hn)⟩;refine ih (L.eraseIdx i') (M++[.int .i64 L[i'].2]) g' _ v2 w' ?_ ?_ S3 Yr (fun d hd'=>.inr (Nat.le_trans Tx.next (IU d hd'))) ((drop_one hi hl).trans hd) (GR.WA Yw Na.next (Nat.le_refl _) (fun _ _=>rfl)) ?_ ⟨rfl,rfl,rfl,trivial⟩
   ·rw[List.length_eraseIdx,if_pos hi];omega
   ·rw[List.length_eraseIdx,if_pos hi];simp;omega
   ·exact yY hs rfl
theorem JZ(S:qA h s tv v T L)(ha:cw T t=0)(hL:L.length≤900)(hQ:∀h' w v',qA h' s tv v' T (jF L t)→Fr h h' [s]→(∀d,d∈dM v'→d∈dM v∨h.next≤d)→Q w h'):VD fs ms 127 [.ptr s 0,.int .i64 t] h Q:=by
 refine bX (af:=Lj) rfl (yB rfl) ?_;conv=>whnf
 refine aE true ?_;conv=>whnf
 refine aE true ?_;conv=>whnf
 refine bt ?_;refine bw ?_;refine J0 S ha ?_ L.length L [] h _ v .aK (Nat.le_refl _) (by simpa using hL) S (Fr.refl _ _) (fun d hd=>.inl hd) rfl (.inl ⟨rfl,rfl⟩) rfl ⟨rfl,rfl,rfl,trivial⟩;intro e' h' v' w S' f hv he;show VC fs ms h.next false _ _ _ _;refine aG 3 _ he (an (z:=true) ?_);conv=>whnf
 exact hQ h' w v' S' f hv
theorem OC{k:Nat}(hT:T.length≤4)(hQ:∀h' s tv,qA h' s tv .aK T []→h.next≤s→(∀d,d∈dM tv→h.next≤d)→Fr h h' []→Q (.cn [.ptr s 0,.int .i64 0]) h'):VD fs ms 58 [.fz k (eP T)] h Q:=by
 refine aj (af:=VE) true rfl (yB rfl) ?_;conv=>whnf
 refine nC (by rw[bq];simp;omega) (fun hc=>?_)
 (try rw[hc])
 conv=>whnf
 refine⟨_,aS ai rfl,?_⟩;conv=>whnf
 obtain⟨h1,hH⟩:∃h1,h1=h.new (.cells [.aK,.aK] true 0):=⟨_,rfl⟩;have g1:h1.get h.next=some (.cells [.aK,.aK] true 0):=by rw[hH];exact ai
 have f1:Fr h h1 []:=by rw[hH];exact(Fr.refl h []).new
 have n1:h1.next=h.next+1:=by rw[hH];rfl
 obtain⟨tv,g',ha,gr,fr⟩:=GR.copy (s:=8) (bytes:=64) (lo:=h1.next) (k:=k) (h:=h1) (M:=eP T) (Nat.le_refl _) (iu T) (tC T) (by rw[bq];omega) (by rw[bq];omega);obtain⟨c1,c2,c3⟩:=GR.RP gr;refine⟨tv,g',by rw[←ha,hH];rfl,?_⟩;conv=>whnf
 have g2:=(fr.keep h.next (by omega) (by simp)).trans g1;refine bV (bp g2 c2 (by show 0+0+1≤2;omega) c3) fun h3 e3=>?_;have g3:h3.get h.next=some (.cells [tv,.aK] true 0):=by rw[e3,au,c1];rfl
 have f3:Fr g' h3 [h.next]:=by rw[e3];exact(Fr.refl g' _).set (by simp)
 clear e3;conv=>whnf
 have fn:=fr.next;have eM:∀d,d∈dM tv→h.next<d:=fun d hd=>by have:=(GR.Gg gr hd).1;omega
 refine hQ h3 h.next tv ⟨by have:=f3.next;omega,g3,?_,.inl ⟨rfl,rfl⟩,fun hm=>by have:=eM _ hm;omega⟩ (Nat.le_refl _) (fun d hd=>Nat.le_of_lt (eM d hd)) ⟨by have:=f3.next;omega,fun c hc _=>(f3.keep c (by omega) (by simp;omega)).trans ((fr.keep c (by omega) (by simp)).trans (f1.keep c hc (by simp)))⟩;rcases gr with⟨hz,rfl⟩|⟨hne,b,q1,q2,rfl,q4⟩
 ·exact .inl ⟨List.map_eq_nil_iff.1 hz,.inl rfl⟩
 ·exact .inr ⟨b,true,by rw[bq],by have:=f3.next;omega,(f3.keep b q2 (by simp;omega)).trans q4⟩
end
end Ir
end Go.Proofs.YtnlcabhfkpafmaaGreat
