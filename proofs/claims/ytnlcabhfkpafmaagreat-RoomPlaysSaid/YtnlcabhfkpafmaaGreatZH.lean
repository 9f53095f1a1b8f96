/-
  Room: what a room answers, as functions of what it is; the program's Ask, Hold, Give, Earliest. Room: the document's stack. Room: the document's stack, changed. Room: the document's Unlock and Drop. Room: the document's Unlock, Drop, New of a stack. Room: the document's room in a heap. Room: what the document's room answers without a change.
-/
import Derived.Test.YtnlcabhfkpafmaaGreatZF
import Derived.Test.YtnlcabhfkpafmaaGreatZC
set_option maxRecDepth 100000
set_option linter.unusedSimpArgs false
set_option linter.unusedVariables false
namespace Go.Proofs.YtnlcabhfkpafmaaGreat
open Go Ads
namespace Ir
def sJ(st:St)(t:Int)(f:Jb→Int×Jb):Int×St:=if lY st.T st.j t≠0 then(lY st.T st.j t,st) else match st.j[t.toNat]? with
 |some (some j)=>((f j).1,{st with j:=st.j.set t.toNat (some (f j).2)})
 |_=>(0,st)
theorem mM{st:St}{t:Int}{f:Jb→Int×Jb}(h:lY st.T st.j t≠0):sJ st t f=(lY st.T st.j t,st):=if_pos h
theorem mL{st:St}{i:Nat}{j:Jb}{f:Jb→Int×Jb}(hl:i<st.T.length)(h:st.j[i]?=some (some j)):sJ st i f=((f j).1,{st with j:=st.j.set i (some (f j).2)}):=by
 unfold sJ;rw[if_neg (by rw[gO hl h];simp),Int.toNat_natCast,h]
def OF(j:Jb):Int×Jb:=(mu j,nQ j)
def MT(j:Jb):Int×Jb:=(ur j,v8 j)
def um(j:Jb):Int×Jb:=if j.s≠3 then(132,j) else(gM j 2,mI j 2)
def uj(j:Jb):Int×Jb:=if j.s≠2 then(132,j) else(uu j,sC j)
def uI(g:Int)(j:Jb):Int×Jb:=if g=0 then(133,j) else if j.s=3 then(0,j) else(gM j 3,mI j 3)
def gT(st:St)(t:Int):Int:=match st.T[t.toNat]? with|some tk=>tk.c|none=>0
def qN(st:St)(t x:Int):Int×St:=if lY st.T st.j t≠0 then(lY st.T st.j t,st) else match st.j[t.toNat]? with
 |some (some j)=>if j.s≥2 then(130,st) else if fm st.T st.L t x≠0 then(fm st.T st.L t x,st) else(0,{st with L:=st.L++[(t,x)],j:=st.j.set t.toNat (some (yE j))})
 |_=>(0,st)
def xN(st:St)(t:Int):Int×St:=if lY st.T st.j t≠0 then(lY st.T st.j t,st) else match st.j[t.toNat]? with
 |some (some j)=>if iV st.T st.L t≠0 then(iV st.T st.L t,st) else(0,{st with L:=st.L.eraseIdx (dw st.L t).toNat,j:=st.j.set t.toNat (some (uQ (st.L.eraseIdx (dw st.L t).toNat) t j))})
 |_=>(0,st)
def xx(st:St)(t:Int):Bool×St:=if lY st.T st.j t≠0 then(false,st) else(true,{st with L:=jH st.L t,j:=st.j.set t.toNat none})
def wM(st:St)(t:Int)(l:List Op)(now:Int):Int×St:=if cz st.T t≠0 then(cz st.T t,st) else match st.j[t.toNat]? with
 |some (some _)=>(141,st)
 |_=>match st.T[t.toNat]?,st.g[t.toNat]? with
  |some tk,some n=>if fU tk l now≠0 then(fU tk l now,st) else if kA n now≠0 then(kA n now,st) else(0,{st with j:=st.j.set t.toNat (some (jG tk l now)),g:=st.g.set t.toNat (zx tk.p n now)})
  |_,_=>(0,st)
theorem pW(j:Jb)(s:Int):(mI j s).e=j.e∧(mI j s).l=j.l:=by
 rw[mI];split
 ·split<;>exact⟨rfl,rfl⟩
 ·exact⟨rfl,rfl⟩
section
variable {h:Heap} {col:Nat→Nat} {r s q k J:Nat} {gv:AV} {D:List Id} {ws:Ws} {gs:List (Nat×Int)} {T:List Tk} {L:List En} {st:St} {Q:AV→Heap→Prop} {t:Int}
theorem O6{n:Nat}(h:RK n):vp n:=.inl h
theorem BZ(R:RA h col r st){i:Nat}{j:Jb}(hj:st.j[i]?=some (some j)):i<st.T.length:=by
 obtain⟨s,q,k,J,gv,D,ws,gs,R,e1,e2,e3,e4⟩:=R;have:=(List.getElem?_eq_some_iff.1 hj).1;rw[e1,wj,List.length_map,R.tl] at this;exact this
theorem Jr(R:RA h col r st)(hQ:∀h' aC,RA h' aC r (sJ st t OF).2→Kc h h' col aC vp→Q (.int .i64 (sJ st t OF).1) h'):VD fs ms 21 [.ptr r 0,.int .i64 t] h Q:=by
 refine EV R (fun hn=>?_) (fun i j ht hj h' aC R' f=>?_)
 ·rw[mM hn] at hQ;exact hQ h col R (Kc.refl _ _ _)
 ·subst ht;rw[mL (BZ R hj) hj] at hQ;exact hQ h' aC R' (f.wk fun _=>O6)
theorem RT(R:RA h col r st)(hQ:∀h' aC,RA h' aC r (sJ st t MT).2→Kc h h' col aC vp→Q (.int .i64 (sJ st t MT).1) h'):VD fs ms 20 [.ptr r 0,.int .i64 t] h Q:=by
 refine ES R (fun hn=>?_) (fun i j ht hj h' aC R' f=>?_)
 ·rw[mM hn] at hQ;exact hQ h col R (Kc.refl _ _ _)
 ·subst ht;rw[mL (BZ R hj) hj] at hQ;exact hQ h' aC R' (f.wk fun _=>O6)
theorem HV{i b:Nat}{j:Jb}{x:Int}(R:qp h col r s q k J gv D ws gs st.T st.L)(e1:st.j=wj ws)(e2:st.g=gs.map Prod.snd)(e3:∀y:Id,y∈D↔∃j,st.j[y.1]?=some (some j)∧y.2=j.e)(e4:∀(i:Nat) (j:Jb),st.j[i]?=some (some j)→j.l.length≤32)(hw:ws[i]?=some (some (b,j)))
  (hQ:∀h' aC,RA h' aC r {st with j:=st.j.set i (some (mI j x))}→Kc h h' col aC RK→Q (.int .i64 (gM j x)) h'):VD fs ms 85 [.ptr b 0,.int .i64 x] h Q:=by
 have hj:st.j[i]?=some (some j):=by rw[e1];exact dn hw
 obtain⟨p,C,o,v,JJ,hC,c1,c2,c3⟩:=R.mP i _ hw;refine IZ JJ fun h4 J4 jL=>?_;have f5:Kc h h4 col (b8 col h.next (10+i)) (· =10+i):=Kc.of jL (by intro c hc _;simp at hc;rcases hc with rfl;exact c1);have hp:=JJ.rw.lt;have hb:=JJ.lt;have JB:KC h4 (b8 col h.next (10+i)) i b (mI j x):=⟨p,C,o,v,J4,Nat.lt_of_lt_of_le hC f5.next,by rw[f5.col b hb,c1],by rw[f5.col p hp,c2],by rw[f5.col C hC,c3]⟩;exact hQ _ _ (RA.we R e1 e2 e3 e4 hw f5 JB (pW j x).1 (by rw[(pW j x).2];exact e4 i j hj)) (f5.wk fun n hn=>by subst hn;exact Ff i (R.len hw))
theorem mD{i:Nat}{j:Jb}(hj:st.j[i]?=some (some j)):{st with j:=st.j.set i (some j)}=st:=by
 rw[dc hj]
theorem NY(R:RA h col r st)(hQ:∀h' aC,RA h' aC r (sJ st t um).2→Kc h h' col aC vp→Q (.int .i64 (sJ st t um).1) h'):VD fs ms 25 [.ptr r 0,.int .i64 t] h Q:=by
 have R0:=R;obtain⟨s,q,k,J,gv,D,ws,gs,R,e1,e2,e3,e4⟩:=R;refine ak (af:=Vc) true rfl (Nat.le_of_ble_eq_true rfl) ?_;conv=>whnf
 refine od R (fun hn=>?_) (fun i b j ht hw=>⟨90,[],rfl,?_⟩)
 ·conv=>whnf
  rw[←e1] at hn⊢;rw[mM hn] at hQ;exact hQ h col R0 (Kc.refl _ _ _)
 ·subst ht;have hj:st.j[i]?=some (some j):=by rw[e1];exact dn hw
  rw[mL (BZ R0 hj) hj] at hQ;refine ak (af:=Wb) true rfl (Nat.le_of_ble_eq_true rfl) ?_;conv=>whnf
  obtain⟨p,C,o,v,JJ,_⟩:=R.mP i _ hw;refine tT JJ ?_;conv=>whnf
  refine br (fun hc=>?_) (fun hc=>?_)<;>(try rw[hc])<;>(conv=>whnf)
  ·have hs:j.s≠3:=by simpa using hc
   rw[um,if_pos hs,mD hj] at hQ;exact hQ h col R0 (Kc.refl _ _ _)
  ·have hs:¬j.s≠3:=by simpa using hc
   rw[um,if_neg hs] at hQ;refine HV R e1 e2 e3 e4 hw fun h' aC R' f=>?_;conv=>whnf
   exact hQ h' aC R' (f.wk fun _=>O6)
theorem NX(R:RA h col r st)(hQ:∀h' aC,RA h' aC r (sJ st t uj).2→Kc h h' col aC vp→Q (.int .i64 (sJ st t uj).1) h'):VD fs ms 26 [.ptr r 0,.int .i64 t] h Q:=by
 have R0:=R;obtain⟨s,q,k,J,gv,D,ws,gs,R,e1,e2,e3,e4⟩:=R;refine ak (af:=Vd) true rfl (Nat.le_of_ble_eq_true rfl) ?_;conv=>whnf
 refine od R (fun hn=>?_) (fun i b j ht hw=>⟨91,[],rfl,?_⟩)
 ·conv=>whnf
  rw[←e1] at hn⊢;rw[mM hn] at hQ;exact hQ h col R0 (Kc.refl _ _ _)
 ·subst ht;have hj:st.j[i]?=some (some j):=by rw[e1];exact dn hw
  rw[mL (BZ R0 hj) hj] at hQ;refine ak (af:=Wc) true rfl (Nat.le_of_ble_eq_true rfl) ?_;conv=>whnf
  obtain⟨p,C,o,v,JJ,_⟩:=R.mP i _ hw;refine tT JJ ?_;conv=>whnf
  refine br (fun hc=>?_) (fun hc=>?_)<;>(try rw[hc])<;>(conv=>whnf)
  ·have hs:j.s≠2:=by simpa using hc
   rw[uj,if_pos hs,mD hj] at hQ;exact hQ h col R0 (Kc.refl _ _ _)
  ·have hs:¬j.s≠2:=by simpa using hc
   rw[uj,if_neg hs] at hQ;refine Dc R e1 e2 e3 e4 hw fun v h' aC hv R' f=>?_;subst hv;conv=>whnf
   exact hQ h' aC R' (f.wk fun _=>O6)
theorem P3{b1 b2 i b:Nat}{j:Jb}(g1:h.get b1=some (.cells [.ptr r 0] true 0))(g2:h.get b2=some (.cells [.int .i64 ((i:Nat):Int)] true 0))(R:qp h col r s q k J gv D ws gs st.T st.L)(e1:st.j=wj ws)(e2:st.g=gs.map Prod.snd)(e3:∀y:Id,y∈D↔∃j,st.j[y.1]?=some (some j)∧y.2=j.e)(e4:∀(i:Nat) (j:Jb),st.j[i]?=some (some j)→j.l.length≤32)(hw:ws[i]?=some (some (b,j)))
  (R0:RA h col r st)(hQ:∀h' aC,RA h' aC r (sJ st i (uI (gT st i))).2→Kc h h' col aC vp→Q (.int .i64 (sJ st i (uI (gT st i))).1) h'):VD fs ms 89 [.ptr b 0,.ptr b1 0,.ptr b2 0] h Q:=by
 have hj:st.j[i]?=some (some j):=by rw[e1];exact dn hw
 have hl:=BZ R0 hj;have s6:pV (.az 8) [.fz k (eP st.T),.int .i64 ((i:Nat):Int)]=some (.fp (tk st.T[i]).cells 0):=kD hl;have hg:gT st i=st.T[i].c:=by rw[gT,Int.toNat_natCast,List.getElem?_eq_getElem hl]
 rw[mL hl hj,hg] at hQ;obtain⟨p,C,o,v,JJ,_⟩:=R.mP i _ hw;refine ak (af:=Wa) true rfl (Nat.le_of_ble_eq_true rfl) ?_;conv=>whnf
 repeat(first|(refine⟨_,aT g1 rfl,?_⟩;conv=>whnf)|(refine⟨_,aT g2 rfl,?_⟩;conv=>whnf)|(refine⟨_,aT R.dB.get rfl,?_⟩;conv=>whnf)|(refine⟨_,s6,?_⟩;conv=>whnf))
 refine⟨.int .i64 st.T[i].c,rfl,?_⟩;conv=>whnf
 refine br (fun hc=>?_) (fun hc=>?_)<;>(try rw[hc])<;>(conv=>whnf)
 ·have hs:st.T[i].c=0:=by simpa using hc
  rw[uI,if_pos hs,mD hj] at hQ;exact hQ h col R0 (Kc.refl _ _ _)
 have hs:¬st.T[i].c=0:=by simpa using hc
 rw[uI,if_neg hs] at hQ;refine tT JJ ?_;conv=>whnf
 refine br (fun hc=>?_) (fun hc=>?_)<;>(try rw[hc])<;>(conv=>whnf)
 ·have h3:j.s=3:=by simpa using hc
  rw[if_pos h3,mD hj] at hQ;exact hQ h col R0 (Kc.refl _ _ _)
 ·have h3:¬j.s=3:=by simpa using hc
  rw[if_neg h3] at hQ;refine HV R e1 e2 e3 e4 hw fun h' aC R' f=>?_;conv=>whnf
  exact hQ h' aC R' (f.wk fun _=>O6)
theorem RR(R:RA h col r st)(hQ:∀h' aC,RA h' aC r (sJ st t (uI (gT st t))).2→Kc h h' col aC vp→Q (.int .i64 (sJ st t (uI (gT st t))).1) h'):VD fs ms 24 [.ptr r 0,.int .i64 t] h Q:=by
 have fr:Fr h ((h.new (.cells [.ptr r 0] true 0)).new (.cells [.int .i64 t] true 0)) []:=((Fr.refl h []).new (x:=_)).new (x:=_);refine ak (af:=Vb) true rfl (Nat.le_of_ble_eq_true rfl) ?_;obtain⟨H,hH⟩:∃H,H=(h.new (.cells [.ptr r 0] true 0)).new (.cells [.int .i64 t] true 0):=⟨_,rfl⟩;have g1:H.get h.next=some (.cells [.ptr r 0] true 0):=by rw[hH];exact(aA (Nat.lt_succ_self _)).trans aj
 have g2:H.get (h.next+1)=some (.cells [.int .i64 t] true 0):=by rw[hH];exact aj (h:=h.new _)
 rw[←hH] at fr;have R0:=R.nil fr;have YF:∀h' aC,RA h' aC r (sJ st t (uI (gT st t))).2→Kc H h' col aC vp→Q (.int .i64 (sJ st t (uI (gT st t))).1) h':=fun h' aC R' f=>hQ h' aC R' ((Kc.same fr).trans f);conv=>whnf
 refine⟨_,aT (show((h.new (.cells [.ptr r 0] true 0)).new (.cells [.int .i64 t] true 0)).get h.next=some (.cells [.ptr r 0] true 0) by rw[←hH];exact g1) rfl,?_⟩;conv=>whnf
 refine⟨_,aT (show((h.new (.cells [.ptr r 0] true 0)).new (.cells [.int .i64 t] true 0)).get (h.next+1)=some (.cells [.int .i64 t] true 0) by rw[←hH];exact g2) rfl,?_⟩;conv=>whnf
 show VD fs ms 79 _ ((h.new (.cells [.ptr r 0] true 0)).new (.cells [.int .i64 t] true 0)) _;rw[←hH];clear hH;have R1:=R0;obtain⟨s,q,k,J,gv,D,ws,gs,R,e1,e2,e3,e4⟩:=R1;refine od R (fun hn=>?_) (fun i b j ht hw=>⟨89,[.ptr h.next 0,.ptr (h.next+1) 0],rfl,?_⟩)
 ·conv=>whnf
  rw[←e1] at hn⊢;rw[mM hn] at YF;exact YF H col R0 (Kc.refl _ _ _)
 ·subst ht;refine VD.mono (P3 (Q:=fun v h'=>Q v h') g1 g2 R e1 e2 e3 e4 hw R0 YF) fun v h' hq=>?_;conv=>whnf
  exact hq
def yh(st:St)(t:Int):Int:=if cz st.T t≠0 then 0 else match st.g[t.toNat]? with|some n=>n|none=>0
theorem NW(R:RA h col r st)(hQ:Q (.int .i64 (yh st t)) h):VD fs ms 29 [.ptr r 0,.int .i64 t] h Q:=by
 obtain⟨s,q,k,J,gv,D,ws,gs,R,e1,e2,e3,e4⟩:=R;refine ak (af:=Vg) true rfl (Nat.le_of_ble_eq_true rfl) ?_;conv=>whnf
 refine Aa R.dB.get ?_;conv=>whnf
 refine br (fun hc=>?_) (fun hc=>?_)<;>(try rw[hc])<;>(conv=>whnf)
 ·have ha:cz st.T t≠0:=by simpa using hc
  rw[yh,if_pos ha] at hQ;exact hQ
 have ha:cz st.T t=0:=by simpa using hc
 obtain⟨i,rfl,hi⟩:=td ha;have su:i<gs.length:=by rw[R.gl];exact hi
 rw[yh,if_neg (by simpa using ha),Int.toNat_natCast,e2,List.getElem?_map,List.getElem?_eq_getElem su] at hQ;obtain⟨a1,a2,a3,a4⟩:=R.uL.all i gs[i] st.T[i] (List.getElem?_eq_getElem su) (List.getElem?_eq_getElem hi);rcases R.uL.row with hz|⟨G,op,es,hv,b1,b2,b3⟩
 ·rw[hz] at su;simp at su
 ·subst hv;have hg:(gs.map fun g=>AV.ptr g.1 0)[i*1]?=some (.ptr gs[i].1 0):=by rw[Nat.mul_one,List.getElem?_map,List.getElem?_eq_getElem su];rfl
  repeat(first|(refine⟨_,aT R.dB.get rfl,?_⟩;conv=>whnf)|(refine⟨_,aJ su,?_⟩;conv=>whnf)|(refine⟨_,aT b3 hg,?_⟩;conv=>whnf))
  refine M9 a4 a1 ?_;conv=>whnf
  exact hQ
theorem N0{x:Int}(R:RA h col r st)(hL:st.L.length≤900)(hQ:∀h' aC,RA h' aC r (qN st t x).2→Kc h h' col aC vp→Q (.int .i64 (qN st t x).1) h'):VD fs ms 22 [.ptr r 0,.int .i64 t,.int .i64 x] h Q:=by
 refine B0 R hL (fun hn h' fr=>?_) (fun i j ht hj hs h' fr=>?_) (fun i j ht hj hs hl h' fr=>?_) (fun i j ht hj hs hl h' aC R' f=>?_)
 ·rw[qN,if_pos hn] at hQ;exact hQ h' col (R.nil fr) (Kc.same fr)
 all_goals subst ht;rw[qN,if_neg (by rw[gO (BZ R hj) hj];simp),Int.toNat_natCast,hj] at hQ;simp only at hQ
 ·rw[if_pos hs] at hQ;exact hQ h' col (R.nil fr) (Kc.same fr)
 ·rw[if_neg (by omega),if_pos hl] at hQ;exact hQ h' col (R.nil fr) (Kc.same fr)
 ·rw[if_neg (by omega),if_neg (by simpa using hl)] at hQ;exact hQ h' aC R' (f.wk fun _=>O6)
theorem RZ(R:RA h col r st)(hL:st.L.length≤900)(hQ:∀h' aC,RA h' aC r (xN st t).2→Kc h h' col aC vp→Q (.int .i64 (xN st t).1) h'):VD fs ms 23 [.ptr r 0,.int .i64 t] h Q:=by
 refine wQ R hL (fun hn h' fr=>?_) (fun i j ht hj hu h' fr=>?_) (fun i j ht hj hu n hn hla h' aC R' f=>?_)
 ·rw[xN,if_pos hn] at hQ;exact hQ h' col (R.nil fr) (Kc.same fr)
 all_goals subst ht;rw[xN,if_neg (by rw[gO (BZ R hj) hj];simp),Int.toNat_natCast,hj] at hQ;simp only at hQ
 ·rw[if_pos hu] at hQ;exact hQ h' col (R.nil fr) (Kc.same fr)
 ·rw[if_neg (by simpa using hu),hla,Int.toNat_natCast] at hQ;exact hQ h' aC R' (f.wk fun _=>O6)
theorem RU(R:RA h col r st)(hL:st.L.length≤900)(hQ:∀h' aC,RA h' aC r (xx st t).2→Kc h h' col aC vp→Q (.bool (xx st t).1) h'):VD fs ms 27 [.ptr r 0,.int .i64 t] h Q:=by
 refine ET R hL (fun hn=>?_) (fun i j ht hj h' aC R' f=>?_)
 ·rw[xx,if_pos hn] at hQ;exact hQ h col R (Kc.refl _ _ _)
 ·subst ht;rw[xx,if_neg (by rw[gO (BZ R hj) hj];simp),Int.toNat_natCast] at hQ;exact hQ h' aC R' (f.wk fun _=>O6)
theorem RY{kk:Nat}{l:List Op}{now:Int}(R:RA h col r st)(hk:kk=3→l=[])(hl:l.length<2^62)(hQ:∀h' aC,RA h' aC r (wM st t l now).2→Kc h h' col aC vp→Q (.int .i64 (wM st t l now).1) h'):VD fs ms 28 [.ptr r 0,.int .i64 t,.fz kk (ops l),.int .i64 now] h Q:=by
 refine EU (l:=l) (bs:=[]) R (by simp) (fun t0 Q h0 h1=>I1 hk hl h0 h1) (fun hn=>?_) (fun i j ht hj=>?_) (fun i tk ht hT hj hn h' aC R' f=>?_) (fun i tk n ht hT hj hn hg Ng h' aC R' f=>?_) (fun i tk n ht hT hj hn hg Ng h' aC R' f=>?_)
 ·rw[wM,if_pos hn] at hQ;exact hQ h col R (Kc.refl _ _ _)
 ·subst ht;have ha:cz st.T i=0:=by rw[cz,decide_eq_false (by omega),decide_eq_false (by have:=BZ R hj;omega)];rfl
  rw[wM,if_neg (by simpa using ha),Int.toNat_natCast,hj] at hQ;exact hQ h col R (Kc.refl _ _ _)
 all_goals
  subst ht;have ha:cz st.T i=0:=by rw[cz,decide_eq_false (by omega),decide_eq_false (by have:=(List.getElem?_eq_some_iff.1 hT).1;omega)];rfl
  rw[wM,if_neg (by simpa using ha),Int.toNat_natCast,hj,hT] at hQ
 ·have su:i<st.g.length:=by
   obtain⟨s,q,k,J,gv,D,ws,gs,R,e1,e2,e3,e4⟩:=R;rw[e2,List.length_map,R.gl];exact(List.getElem?_eq_some_iff.1 hT).1
  rw[List.getElem?_eq_getElem su] at hQ;simp only at hQ;rw[if_pos hn] at hQ;exact hQ h' aC R' f
 ·rw[hg] at hQ;simp only at hQ;rw[if_neg (by simpa using hn),if_pos Ng] at hQ;exact hQ h' aC R' f
 ·rw[hg] at hQ;simp only at hQ;rw[if_neg (by simpa using hn),if_neg (by simpa using Ng)] at hQ;exact hQ h' aC R' f
end
def dN:AV→List Nat
 |.sl b _ _ _ _=>[b]
 |_=>[]
theorem GR.Gg{s lo:Nat}{h:Heap}{v:AV}{M:List AV}(hr:GR s lo h v M){d:Nat}(ho:d∈dN v):lo≤d∧d<h.next∧h.get d=some (.cells (aa M) true s):=by
 rcases hr with⟨_,rfl⟩|⟨_,b,h1,h2,rfl,h4⟩
 ·simp[dN] at ho
 ·simp[dN] at ho;subst ho;exact⟨h1,h2,h4⟩
theorem GR.WC{s lo lo':Nat}{h h':Heap}{v:AV}{M:List AV}(hr:GR s lo h v M)(hl:lo'≤lo)(hn:h.next≤h'.next)(hk:∀d,d∈dN v→h'.get d=h.get d):GR s lo' h' v M:=by
 rcases hr with h|⟨hne,b,h1,h2,rfl,h4⟩
 ·exact .inl h
 ·exact .inr ⟨hne,b,by omega,by omega,rfl,(hk b (by simp[dN])).trans h4⟩
theorem GR.RO{s lo:Nat}{h:Heap}{v:AV}{M:List AV}(hr:GR s lo h v M):v.cells=[v]∧v.cells.length=1∧bA v.cells=true:=by
 rcases hr with⟨_,rfl⟩|⟨_,b,_,_,rfl,_⟩<;>exact⟨rfl,rfl,rfl⟩
theorem GR.at{s lo:Nat}{h:Heap}{v:AV}{M:List AV}(hr:GR s lo h v M)(hs:aO s M=true){i:Nat}(hi:i<M.length):∃b,pV (.az s) [v,.int .i64 ((i:Nat):Int)]=some (.ptr b (i*s))∧∀(r:Nat) (c:AV),M[i].cells[r]?=some c→rV .ck [.ptr b (i*s+r)] h=some c:=by
 rcases hr with⟨rfl,_⟩|⟨_,b,h1,h2,rfl,h4⟩
 ·simp at hi
 ·exact⟨b,aJ hi,fun r c hc=>aT h4 (kW hs (List.getElem?_eq_getElem hi) hc)⟩
theorem GR.To{s bytes lo:Nat}{h:Heap}{v:AV}{M:List AV}(hr:GR s lo h v M){x:AV}(hx:x.cells.length=s)(hf:bA x.cells=true)(hs:aO s M=true)(hl:(M.length+1)*bytes≤140737488355328)(hm:M.length+1≤140737488355328):
  ∃v' g',eV (.append s bytes) [v,.sl h.next 0 1 1 false] (h.new (.cells x.cells true 0))=some (v',g')∧GR s h.next g' v' (M++[x])∧Fr h g' (dN v):=by
 have hsrc:dm s (h.new (.cells x.cells true 0)) (.sl h.next 0 1 1 false)=some (1,x.cells):=Kn aj (by omega);have GL:aa (M++[x])=aa M++x.cells:=by rw[lK];simp[aa]
 rcases hr with⟨h1,h2⟩|⟨FQ,b,h1,h2,h3,h4⟩
 ·subst h1 h2;have:=mU (bytes:=bytes) hsrc hf (by simpa using hl) (by omega);rw[if_neg (by omega)] at this;refine⟨_,_,this,.inr ⟨by simp,h.next+1,by omega,Nat.lt_succ_self _,rfl,?_⟩,((Fr.refl h _).new).new⟩;rw[GL];exact aj (h:=h.new (.cells x.cells true 0))
 ·subst h3;have hg:(h.new (.cells x.cells true 0)).get b=some (.cells (aa M) true s):=by rw[aA h2];exact h4
  refine⟨_,_,AG hg (jk hs) hsrc hf hl hm,.inr ⟨by simp,h.next+1,by omega,Nat.lt_succ_self _,by rw[List.length_append];rfl,?_⟩,by show h.next≤h.next+1+1;omega,fun c hc ho=>?_⟩
  ·have:=aj (h:=(h.new (.cells x.cells true 0)).del b) (x:=.cells (aa M++x.cells) true s);rw[show((h.new (.cells x.cells true 0)).del b).next=h.next+1 from rfl] at this;rw[this,GL]
  ·have hne:c≠b:=by simpa[dN] using ho
   exact(aA (h:=(h.new (.cells x.cells true 0)).del b) (show c<h.next+1 by omega)).trans ((oV hne).trans (aA (by omega)))
def DM(h:Heap)(tv:AV)(T:List Tk):Prop:=(T=[]∧(tv=.aL∨∃b,tv=.sl b 0 0 0 false∧b<h.next∧h.get b=some (.cells [] true 0)))∨∃b op,tv=.sl b 0 T.length T.length op∧b<h.next∧h.get b=some (.cells (aa (eP T)) true 8)
section
variable {h h':Heap} {s:Nat} {tv v:AV} {T:List Tk} {L:List En} {Q:AV→Heap→Prop} {t:Int}
theorem DM.keep{bs:List Nat}(R:DM h tv T)(f:Fr h h' bs)(hb:∀c,c∈dN tv→c∉bs):DM h' tv T:=by
 rcases R with⟨h1,h2|⟨b,rfl,h3,h4⟩⟩|⟨b,op,rfl,h3,h4⟩
 ·exact .inl ⟨h1,.inl h2⟩
 ·exact .inl ⟨h1,.inr ⟨b,rfl,Nat.lt_of_lt_of_le h3 f.next,(f.keep b h3 (hb b (by simp[dN]))).trans h4⟩⟩
 ·exact .inr ⟨b,op,rfl,Nat.lt_of_lt_of_le h3 f.next,(f.keep b h3 (hb b (by simp[dN]))).trans h4⟩
theorem DM.lt(R:DM h tv T):∀c,c∈dN tv→c<h.next∧∀cs,h.get c≠some (.cells cs true 2):=by
 intro c hc;rcases R with⟨h1,rfl|⟨b,rfl,h3,h4⟩⟩|⟨b,op,rfl,h3,h4⟩
 ·simp[dN] at hc
 ·simp[dN] at hc;subst hc;exact⟨h3,fun cs e=>by rw[h4] at e;simp at e⟩
 ·simp[dN] at hc;subst hc;exact⟨h3,fun cs e=>by rw[h4] at e;simp at e⟩
theorem DM.len(R:DM h tv T):pV .bL [tv]=some (.int .i64 ((T.length:Nat):Int)):=by
 rcases R with⟨rfl,rfl|⟨b,rfl,_⟩⟩|⟨b,op,rfl,_⟩<;>rfl
theorem DM.SH(R:DM h tv T):∃k,ny (fun _=>True) h tv (.fz k (eP T)):=by
 rcases R with⟨rfl,rfl|⟨b,rfl,h3,h4⟩⟩|⟨b,op,rfl,h3,h4⟩
 ·exact⟨3,.aL⟩
 ·exact⟨0,pZ (rest:=[]) (s:=8) trivial h4 rfl rfl rfl (Nat.le_refl _) rfl⟩
 ·exact⟨0,pZ (rest:=[]) (s:=8) trivial h4 (by simp) (iy T) (bt T).symm (Nat.le_refl _) (bF T)⟩
theorem DM.at(R:DM h tv T){i:Nat}(hi:i<T.length):∃b,pV (.az 8) [tv,.int .i64 ((i:Nat):Int)]=some (.ptr b (i*8))∧(∀(r:Nat) (c:AV),(tk T[i]).cells[r]?=some c→rV .ck [.ptr b (i*8+r)] h=some c)∧rV (.aZ 8) [.ptr b (i*8)] h=some (tk T[i]):=by
 rcases R with⟨rfl,_⟩|⟨b,op,rfl,h3,h4⟩
 ·simp at hi
 ·have s6:(eP T)[i]?=some (tk T[i]):=by rw[eP,List.getElem?_map,List.getElem?_eq_getElem hi];rfl
  refine⟨b,aJ hi,fun r c hc=>aT h4 (kW (iy T) s6 hc),?_⟩;have QS:=jk (iy T);rw[bt] at QS;rw[u0 h4 (by rw[QS];omega)]
  congr 1
  have:∀r,r<8→((aa (eP T)).drop (i*8)).take 8=(tk T[i]).cells:=fun _ _=>by
   apply List.ext_getElem?;intro n;rw[List.getElem?_take,List.getElem?_drop];split
   ·rename_i hn;have hl:(tk T[i]).cells[n]?=some ((tk T[i]).cells[n]'(by simpa[tk,AV.cells] using hn)):=List.getElem?_eq_getElem _;rw[hl];exact kW (iy T) s6 hl
   ·rename_i hn;exact(List.getElem?_eq_none (by simp[tk,AV.cells];omega)).symm
  rw[this 0 (by decide)];rfl
structure qB(h:Heap)(s:Nat)(tv v:AV)(T:List Tk)(L:List En):Prop where
 lt:s<h.next
 st:h.get s=some (.cells [tv,v] true 0)
 tr:DM h tv T
 en:GR 2 0 h v (dK L)
 nt:s∉dN tv
theorem qB.nv(S:qB h s tv v T L):s∉dN v:=fun hm=>by
 have:=(GR.Gg S.en hm).2.2;rw[S.st] at this;simp at this
theorem qB.ntv(S:qB h s tv v T L):∀c,c∈dN tv→c∉dN v:=fun c hc hm=>(S.tr.lt c hc).2 _ (GR.Gg S.en hm).2.2
theorem qB.keep{bs:List Nat}(S:qB h s tv v T L)(f:Fr h h' bs)(h1:s∉bs)(h2:∀c,c∈dN tv→c∉bs)(h3:∀c,c∈dN v→c∉bs):qB h' s tv v T L:=
 ⟨Nat.lt_of_lt_of_le S.lt f.next,(f.keep s S.lt h1).trans S.st,S.tr.keep f h2,GR.WC S.en (Nat.le_refl _) f.next fun d hd=>f.keep d (GR.Gg S.en hd).2.1 (h3 d hd),S.nt⟩
theorem qB.nil(S:qB h s tv v T L)(f:Fr h h' []):qB h' s tv v T L:=S.keep f (by simp) (by simp) (by simp)
theorem J0{h0:Heap}(S:qB h0 s tv v T L)(hL:L.length≤1000){B:Nat}{Q:AX→Env→Heap→Prop}(hQ:∀e' h' w,GR 1 h0.next h' w (ints (bz L t))→Fr h0 h' []→dr e' [(5,w)]→Q (.exit 0) e' h'):
  ∀(m j:Nat) (h:Heap) (env:Env) (w:AV),L.length-j=m→j≤L.length→GR 1 h0.next h w (ints (bz (L.take j) t))→Fr h0 h []→dr env [(0,.ptr s 0),(1,.int .i64 t),(5,w),(6,.int .i64 ((j:Nat):Int))]→VC fs ms B false (.loop eW) env h Q:=by
 intro m;induction m with
 |zero=>
  intro j h env w hm hj hr fr dF;have hjl:j=L.length:=by omega
  have S1:=S.nil fr;subst hjl;refine aH 5 _ dF ?_;refine cS (aq (z:=true) ?_);conv=>whnf
  refine⟨_,aT S1.st rfl,?_⟩;conv=>whnf
  rw[GR.len S1.en];conv=>whnf
  refine nE (by simp[bw]) (fun hc=>?_)
  (try rw[hc])
  conv=>whnf
  rw[List.take_length] at hr;exact hQ _ _ w hr fr ⟨rfl,trivial⟩
 |succ m ih=>
  intro j h env w hm hj hr fr dF;have hlt:j<L.length:=by omega
  have S1:=S.nil fr;have jS:=yA hlt t;have hhl:=vY (L.take j) t;rw[List.length_take] at hhl;obtain⟨b,s6,oB⟩:=GR.at S1.en (fq L) (i:=j) (by rw[bw];exact hlt);have Av:=oB 0 (.int .i64 L[j].1) (by simp[dK,en,AV.cells]);have Eg:=oB 1 (.int .i64 L[j].2) (by simp[dK,en,AV.cells]);refine aH 5 _ dF ?_;refine cS (aF true ?_);conv=>whnf
  refine⟨_,aT S1.st rfl,?_⟩;conv=>whnf
  rw[GR.len S1.en];conv=>whnf
  refine qt (by simp[bw];omega) (fun hc=>?_)
  (try rw[hc])
  conv=>whnf
  refine bu (bx (aF true ?_));conv=>whnf
  refine⟨_,aT S1.st rfl,?_⟩;conv=>whnf
  refine⟨_,s6,?_⟩;conv=>whnf
  refine⟨_,Av,?_⟩;conv=>whnf
  refine gW ?_;conv=>whnf
  refine br (fun hc=>?_) (fun hc=>?_)<;>(try rw[hc])<;>(conv=>whnf)
  ·rw[if_pos hc] at jS;refine aq (z:=true) ?_;conv=>whnf
   refine⟨_,aT S1.st rfl,?_⟩;conv=>whnf
   refine⟨_,s6,?_⟩;conv=>whnf
   refine⟨_,Eg,?_⟩;conv=>whnf
   obtain⟨w',g',ha,Yy,hn',hk'⟩:=GR.app (bytes:=8) hr fr.next (x:=.int .i64 L[j].2) rfl rfl (qk _) (by rw[bI];omega) (by rw[bI];omega);refine⟨_,_,ha,?_⟩;conv=>whnf
   refine aq (z:=true) ?_;conv=>whnf
   refine ih (j+1) g' _ w' (by omega) (by omega) (by rw[jS,ints,List.map_append];exact Yy) ⟨by have:=fr.next;omega,fun c hc _=>(hk' c hc).trans (fr.keep c hc (by simp))⟩ ⟨rfl,rfl,rfl,aK (by omega),trivial⟩
  ·rw[if_neg (by simpa using hc)] at jS;refine aq (z:=true) ?_;conv=>whnf
   refine aq (z:=true) ?_;conv=>whnf
   refine ih (j+1) h _ w (by omega) (by omega) (by rw[jS];exact hr) fr ⟨rfl,rfl,rfl,aK (by omega),trivial⟩
theorem nj(S:qB h s tv v T L)(hL:L.length≤1000)(hQ:∀h' w,GR 1 h.next h' w (ints (bz L t))→Fr h h' []→Q w h'):VD fs ms 124 [.ptr s 0,.int .i64 t] h Q:=by
 refine bY (af:=Le) rfl (Nat.le_of_ble_eq_true rfl) ?_;conv=>whnf
 refine aF true ?_;conv=>whnf
 refine aF true ?_;conv=>whnf
 refine bu (aF true ?_);conv=>whnf
 refine bx ?_;refine J0 (h0:=h) S hL ?_ L.length 0 h _ .aL rfl (Nat.zero_le _) (.inl ⟨by simp[bz,ints],rfl⟩) (Fr.refl _ _) ⟨rfl,rfl,rfl,rfl,trivial⟩;intro e' h' w hr fr h5;show VC fs ms h.next false _ _ _ _;refine aH 3 _ h5 (aq (z:=true) ?_);conv=>whnf
 exact hQ h' w hr fr
theorem JX(S:qB h s tv v T L)(hT:T.length<2^62)(hL:L.length≤1000){B:Nat}{Q:AX→Env→Heap→Prop}(hQ:∀e',dr e' [(3,.int .i64 (iA T L))]→Q (.exit 0) e' h):
  ∀(m j:Nat) (env:Env),L.length-j=m→j≤L.length→dr env [(0,.ptr s 0),(3,.int .i64 (iA T (L.take j))),(4,.int .i64 ((j:Nat):Int))]→VC fs ms B false (.loop ez) env h Q:=by
 intro m;induction m with
 |zero=>
  intro j env hm hj dF;have hjl:j=L.length:=by omega
  subst hjl;rw[List.take_length] at dF;refine aH 5 _ dF ?_;refine cS (aq (z:=true) ?_);conv=>whnf
  refine⟨_,aT S.st rfl,?_⟩;conv=>whnf
  rw[GR.len S.en];conv=>whnf
  refine nE (by simp[bw]) (fun hc=>?_)
  (try rw[hc])
  conv=>whnf
  exact hQ _ ⟨rfl,trivial⟩
 |succ m ih=>
  intro j env hm hj dF;have hlt:j<L.length:=by omega
  have jS:=vA (T:=T) hlt;obtain⟨b,s6,oB⟩:=GR.at S.en (fq L) (i:=j) (by rw[bw];exact hlt);have Eg:=oB 1 (.int .i64 L[j].2) (by simp[dK,en,AV.cells]);obtain⟨k,hf⟩:=S.tr.SH;refine aH 5 _ dF ?_;refine cS (aF true ?_);conv=>whnf
  refine⟨_,aT S.st rfl,?_⟩;conv=>whnf
  rw[GR.len S.en];conv=>whnf
  refine qt (by simp[bw];omega) (fun hc=>?_)
  (try rw[hc])
  conv=>whnf
  refine bu (bx (aq (z:=true) ?_));conv=>whnf
  refine⟨_,aT S.st rfl,?_⟩;conv=>whnf
  refine⟨_,aT S.st rfl,?_⟩;conv=>whnf
  refine⟨_,s6,?_⟩;conv=>whnf
  refine⟨_,Eg,?_⟩;conv=>whnf
  refine fQ (HB k T hT L[j].2) rfl (.cons hf (.cons (.clean rfl) .nil)) ?_;conv=>whnf
  refine aq (z:=true) ?_;conv=>whnf
  refine ih (j+1) _ (by omega) (by omega) ⟨rfl,vc jS.symm,aK (by omega),trivial⟩
theorem JW(S:qB h s tv v T L)(hT:T.length<2^62)(hL:L.length≤1000)(hQ:Q (.int .i64 (iA T L)) h):VD fs ms 62 [.ptr s 0] h Q:=by
 refine bY (af:=VK) rfl (Nat.le_of_ble_eq_true rfl) ?_;conv=>whnf
 refine aF true ?_;conv=>whnf
 refine aF true ?_;conv=>whnf
 refine bu (aF true ?_);conv=>whnf
 refine bx ?_;refine JX S hT hL ?_ L.length 0 _ rfl (Nat.zero_le _) ⟨rfl,rfl,rfl,trivial⟩;intro e' h3;show VC fs ms h.next false _ _ _ _;refine aH 3 _ h3 (aq (z:=true) ?_);conv=>whnf
 exact hQ
theorem OC(S:qB h s tv v T L)(hL:L.length≤1000)(hQ:Q (.cq [.int .i64 (qw L).1,.bool (qw L).2]) h):VD fs ms 63 [.ptr s 0] h Q:=by
 refine ak (af:=VL) true rfl (Nat.le_of_ble_eq_true rfl) ?_;conv=>whnf
 refine⟨_,aT S.st rfl,?_⟩;conv=>whnf
 rw[GR.len S.en];conv=>whnf
 refine br (fun hc=>?_) (fun hc=>?_)<;>(try rw[hc])<;>(conv=>whnf)
 ·have hz:L=[]:=by rw[bw] at hc;exact List.eq_nil_of_length_eq_zero (by simpa using hc)
  subst hz;exact hQ
 ·have hz:¬L.length=0:=by rw[bw] at hc;simpa using hc
  have hw:IntKind.i64.wrap ((((dK L).length:Nat):Int)-1)=((L.length-1:Nat):Int):=by
   rw[bw,IntWalk.i64_in _ (by omega)];omega
  obtain⟨b,s6,oB⟩:=GR.at S.en (fq L) (i:=L.length-1) (by rw[bw];omega);have Av:=oB 0 (.int .i64 L[L.length-1].1) (by simp[dK,en,AV.cells]);rw[←hw] at s6;have ht:qw L=(L[L.length-1].1,true):=by
   rw[qw,List.getLast?_eq_getElem?,List.getElem?_eq_getElem (by omega)]
  rw[ht] at hQ;refine⟨_,aT S.st rfl,?_⟩;conv=>whnf
  refine⟨_,aT S.st rfl,?_⟩;conv=>whnf
  rw[GR.len S.en];conv=>whnf
  refine⟨_,s6,?_⟩;conv=>whnf
  refine⟨_,Av,?_⟩;conv=>whnf
  exact hQ
end
section
variable {h h':Heap} {s:Nat} {tv v:AV} {T:List Tk} {L:List En} {Q:AV→Heap→Prop} {t:Int}
theorem JN{e:Env}{h:Heap}{a:Nat}{v:AV}(ha:Tr.get e a=some v):dH e h [.tmp a]=some [v]:=by simp only[dH,n8,ha,Option.map_some]
theorem Mw{L:List En}{r:Int}{j:Nat}(h:j<L.length):(L.drop j).any (fun x=>x.2==r)=(L[j].2==r||(L.drop (j+1)).any (fun x=>x.2==r)):=by
 rw[List.drop_eq_getElem_cons h];rfl
theorem J7{r:Int}(S:qB h s tv v T L)(hL:L.length≤900){B:Nat}{Q:AX→Env→Heap→Prop}(hQ:∀e',L.any (fun x=>x.2==r)=false→dr e' [(0,.ptr s 0),(1,.int .i64 t),(2,.int .i64 r)]→Q (.exit 0) e' h)(hE:∀e',L.any (fun x=>x.2==r)=true→dr e' [(6,.int .i64 131)]→Q .ret e' h):
  ∀(m j:Nat) (env:Env),L.length-j=m→j≤L.length→(L.drop j).any (fun x=>x.2==r)=L.any (fun x=>x.2==r)→dr env [(0,.ptr s 0),(1,.int .i64 t),(2,.int .i64 r),(7,.int .i64 ((j:Nat):Int))]→VC fs ms B false (.loop eX) env h Q:=by
 intro m;induction m with
 |zero=>
  intro j env hm hj ha dF;have hjl:j=L.length:=by omega
  subst hjl;rw[List.drop_length] at ha;refine aH 5 _ dF ?_;refine cS (aq (z:=true) ?_);conv=>whnf
  refine⟨_,aT S.st rfl,?_⟩;conv=>whnf
  rw[GR.len S.en];conv=>whnf
  refine nE (by simp[bw]) (fun hc=>?_)
  (try rw[hc])
  conv=>whnf
  exact hQ _ ha.symm ⟨rfl,rfl,rfl,trivial⟩
 |succ m ih=>
  intro j env hm hj ha dF;have hlt:j<L.length:=by omega
  rw[Mw hlt] at ha;obtain⟨b,s6,oB⟩:=GR.at S.en (fq L) (i:=j) (by rw[bw];exact hlt);have Eg:=oB 1 (.int .i64 L[j].2) (by simp[dK,en,AV.cells]);refine aH 5 _ dF ?_;refine cS (aF true ?_);conv=>whnf
  refine⟨_,aT S.st rfl,?_⟩;conv=>whnf
  rw[GR.len S.en];conv=>whnf
  refine qt (by simp[bw];omega) (fun hc=>?_)
  (try rw[hc])
  conv=>whnf
  refine bu (bx (aq (z:=true) ?_));conv=>whnf
  refine⟨_,aT S.st rfl,?_⟩;conv=>whnf
  refine⟨_,s6,?_⟩;conv=>whnf
  refine⟨_,Eg,?_⟩;conv=>whnf
  refine br (fun hc=>?_) (fun hc=>?_)<;>(try rw[hc])<;>(conv=>whnf)
  ·rw[hc,Bool.true_or] at ha;exact hE _ ha.symm ⟨rfl,trivial⟩
  ·rw[hc,Bool.false_or] at ha;refine aq (z:=true) ?_;conv=>whnf
   refine ih (j+1) _ (by omega) (by omega) ha ⟨rfl,rfl,rfl,aK (by omega),trivial⟩
theorem J6{r:Int}(S:qB h s tv v T L)(hT:T.length<2^62)(hL:L.length≤900)(hH:(bz L t).length≤4)
  (h0:fm T L t r≠0→∀h',Fr h h' []→Q (.int .i64 (fm T L t r)) h')
  (h1:fm T L t r=0→∀h' v',qB h' s tv v' T (L++[(t,r)])→Fr h h' (s::dN v)→(∀d,d∈dN v'→h.next≤d)→Q (.int .i64 0) h'):VD fs ms 121 [.ptr s 0,.int .i64 t,.int .i64 r] h Q:=by
 refine bY (af:=Lb) rfl (Nat.le_of_ble_eq_true rfl) ?_;conv=>whnf
 refine aF true ?_;conv=>whnf
 have CU:cz T t=9→∀h',Fr h h' []→Q (.int .i64 9) h':=fun hn h' fr=>by
  have e:fm T L t r=9:=by rw[fm,if_pos (by simp[hn]),hn]
  rw[e] at h0;exact h0 (by decide) h' fr
 refine bu (aF true ?_);conv=>whnf
 refine br (fun hc=>?_) (fun hc=>?_)<;>(try rw[hc])<;>(conv=>whnf)
 ·refine gW ?_;conv=>whnf
  refine aq (z:=true) ?_;conv=>whnf
  exact CU (by rw[cz,hc];rfl) h (Fr.refl _ _)
 have hneg:=hc;refine⟨_,aT S.st rfl,?_⟩;conv=>whnf
 rw[S.tr.len];conv=>whnf
 refine gW ?_;conv=>whnf
 refine br (fun hc=>?_) (fun hc=>?_)<;>(try rw[hc])<;>(conv=>whnf)
 ·refine aq (z:=true) ?_;conv=>whnf
  exact CU (by rw[cz,hneg,hc];rfl) h (Fr.refl _ _)
 have ha:cz T t=0:=by rw[cz,hneg,hc];rfl
 have hlk:fm T L t r=if !uses T t r then 133 else if L.any (fun x=>x.2==r) then 131 else if decide (((bz L t).length:Int)≥4) then 130 else 0:=by rw[fm,if_neg (by simp[ha])]
 obtain⟨kT,hf⟩:=S.tr.SH;refine aq (z:=true) ?_;conv=>whnf
 refine bu (aF true ?_);conv=>whnf
 refine⟨_,aT S.st rfl,?_⟩;conv=>whnf
 refine fQ (Ca kT T hT t r) rfl (.cons hf (.cons (.clean rfl) (.cons (.clean rfl) .nil))) ?_;conv=>whnf
 refine gW ?_;conv=>whnf
 refine br (fun hc=>?_) (fun hc=>?_)<;>(try rw[hc])<;>(conv=>whnf)
 ·rw[if_pos hc] at hlk;rw[hlk] at h0;refine aq (z:=true) ?_;conv=>whnf
  exact h0 (by decide) h (Fr.refl _ _)
 rw[if_neg (by rw[hc];simp)] at hlk;refine aq (z:=true) ?_;conv=>whnf
 refine bu (aF true ?_);conv=>whnf
 refine bx ?_;refine J7 (t:=t) S hL (fun e' Ib he=>?_) (fun e' Ib he=>?_) L.length 0 _ rfl (Nat.zero_le _) rfl ⟨rfl,rfl,rfl,rfl,trivial⟩
 rotate_left
 ·rw[if_pos Ib] at hlk;rw[hlk] at h0;conv=>whnf
  refine dM (v:=[.int .i64 131]) (JN he.1) ?_;exact h0 (by decide) h (Fr.refl _ _)
 rw[if_neg (by rw[Ib];simp)] at hlk;show VC fs ms _ false _ _ _ _;refine aH 4 _ he ?_;refine bu (aF true ?_);conv=>whnf
 refine nj S (by omega) fun uV w H6 dy=>?_;conv=>whnf
 rw[GR.len H6];conv=>whnf
 rw[bI];refine gW ?_;conv=>whnf
 refine br (fun hc=>?_) (fun hc=>?_)<;>(try rw[hc])<;>(conv=>whnf)
 ·have h4:(bz L t).length=4:=by have:=eq_of_beq hc;omega
  rw[if_pos (by simp[h4])] at hlk;rw[hlk] at h0;refine aq (z:=true) ?_;conv=>whnf
  exact h0 (by decide) uV dy
 have h4:¬(bz L t).length=4:=by
  intro h;rw[h] at hc;exact absurd hc (by decide)
 rw[if_neg (by simp;omega)] at hlk;have S1:=S.nil dy;obtain⟨v',g',hap,Na,ey⟩:=GR.To (bytes:=16) S1.en (x:=en (t,r)) rfl rfl (fq L) (by rw[bw];omega) (by rw[bw];omega);obtain⟨c1,c2,c3⟩:=GR.RO Na;refine aq (z:=true) ?_;conv=>whnf
 refine aq (z:=true) ?_;conv=>whnf
 refine⟨_,aT S1.st rfl,?_⟩;conv=>whnf
 refine⟨_,_,hap,?_⟩;conv=>whnf
 have gs:g'.get s=some (.cells [tv,v] true 0):=(ey.keep s S1.lt S1.nv).trans S1.st;refine bW (bq gs c2 (by show 0+0+1+1≤2;omega) c3) fun h3 e3=>?_;have g3:h3.get s=some (.cells [tv,v'] true 0):=by rw[e3,ay,c1];rfl
 have f3:Fr g' h3 [s]:=by rw[e3];exact(Fr.refl g' _).set (by simp)
 clear e3;conv=>whnf
 have f13:Fr uV h3 (s::dN v):=⟨Nat.le_trans ey.next f3.next,fun c hc hn=>(f3.keep c (Nat.lt_of_lt_of_le hc ey.next) (by simp at hn;simp[hn.1])).trans (ey.keep c hc (by simp at hn;exact hn.2))⟩;have rT:∀d,d∈dN v'→uV.next≤d:=fun d hd=>(GR.Gg Na hd).1;refine h1 hlk h3 v' ⟨?_,g3,S1.tr.keep f13 (fun c hc=>?_),?_,S.nt⟩ ⟨Nat.le_trans dy.next f13.next,fun c hc hn=>(f13.keep c (Nat.lt_of_lt_of_le hc dy.next) hn).trans (dy.keep c hc (by simp))⟩ (fun d hd=>Nat.le_trans dy.next (rT d hd))
 ·exact Nat.lt_of_lt_of_le S1.lt f13.next
 ·simp only[List.mem_cons,not_or];exact⟨fun e=>S.nt (e▸hc),S1.ntv c hc⟩
 ·have hg:GR 2 uV.next g' v' (dK (L++[(t,r)])):=by rw[dK,List.map_append];exact Na
  exact GR.WC hg (Nat.zero_le _) f3.next fun d hd=>f3.keep d (GR.Gg Na hd).2.1 (by have:=rT d hd;have:=S1.lt;simp;omega)
end
end Ir
end Go.Proofs.YtnlcabhfkpafmaaGreat
namespace Go.Proofs.YtnlcabhfkpafmaaGreat
open Go Ads
namespace Ads
theorem P0{h:Heap}{s bytes b m n:Nat}{vs cs:List AV}{x:AV}(hg:h.get b=some (.cells vs true s))(hv:vs.length=m*s)(hsrc:dm s h x=some (n+1,cs))(hf:bA cs=true)(hb:(m+(n+1))*bytes≤140737488355328)(hm:m+(n+1)≤140737488355328):
  eV (.append s bytes) [.sl b 0 m m true,x] h=some (.sl h.next 0 (m+(n+1)) (m+(n+1)) true,(h.del b).new (.cells (vs++cs) true s)):=by
 have b1:Nat.ble (m+(n+1)) m=false:=by cases hb:Nat.ble (m+(n+1)) m with|false=>rfl|true=>(have:=Nat.le_of_ble_eq_true hb;omega)
 have b2:Nat.ble ((m+(n+1))*bytes) 140737488355328=true:=Nat.ble_eq_true_of_le hb;have b3:Nat.ble (m+(n+1)) 9223372036854775807=true:=Nat.ble_eq_true_of_le (by omega);have b4:Nat.ble (0+m*s) vs.length=true:=Nat.ble_eq_true_of_le (by omega);have b5:Nat.beq vs.length (0+m*s)=true:=by rw[hv,Nat.zero_add];exact Nat.beq_refl _
 have oB:h.aZ b 0 (m*s)=some vs:=by
  simp only[Heap.aZ,Heap.row,hg,b4,cond_true,List.drop_zero];rw[←hv,List.take_length]
 simp only[eV,l2,hsrc];show cond (bA cs) _ _=_;rw[hf,cond_true];show cond (Nat.beq (n+1) 0&&Nat.ble m m) _ _=_;rw[show Nat.beq (n+1) 0=false from rfl,Bool.false_and,cond_false,b1,cond_false,b2,b3,Bool.and_self,cond_true,hg,oB];show cond true (cond (true&&Nat.beq vs.length (0+m*s)&&Nat.beq m m&&Nat.beq s s) _ _) _=_;rw[b5,Nat.beq_refl,Nat.beq_refl];rfl
theorem GR.Tn{s bytes lo:Nat}{h:Heap}{v x:AV}{M X:List AV}(hr:GR s lo h v M)(hlo:lo≤h.next)(hsrc:dm s h x=some (X.length,aa X))(hf:bA (aa X)=true)(hs:aO s M=true)(hl:(M.length+X.length)*bytes≤140737488355328)(hm:M.length+X.length≤140737488355328):
  ∃v' g',eV (.append s bytes) [v,x] h=some (v',g')∧GR s lo g' v' (M++X)∧h.next≤g'.next∧∀c,c<lo→g'.get c=h.get c:=by
 rcases hr with⟨rfl,rfl⟩|⟨FQ,b,h1,h2,rfl,h4⟩
 ·have:=mU (bytes:=bytes) hsrc hf (by simpa using hl) (by simpa using hm);by_cases hz:X.length=0
  ·rw[if_pos hz] at this;have hX:X=[]:=List.eq_nil_of_length_eq_zero hz;subst hX;exact⟨_,_,this,.inl ⟨rfl,rfl⟩,Nat.le_refl _,fun c _=>rfl⟩
  ·rw[if_neg hz] at this;exact⟨_,_,this,.inr ⟨fun h=>hz (by rw[List.nil_append] at h;rw[h];rfl),h.next,hlo,Nat.lt_succ_self _,rfl,aj⟩,Nat.le_succ _,fun c hc=>aA (by omega)⟩
 ·cases X with
  |nil=>
   refine⟨.sl b 0 M.length M.length true,h,?_,.inr ⟨by simpa using FQ,b,h1,h2,by simp,by simpa using h4⟩,Nat.le_refl _,fun c _=>rfl⟩;have Uj:dm s h x=some (0,aa []):=hsrc;simp only[eV,l2,Uj];show cond (bA (aa [])) (cond (Nat.beq 0 0&&Nat.ble M.length M.length) _ _) _=_;rw[hf,Nat.ble_eq_true_of_le (Nat.le_refl _)];rfl
  |cons y X=>
   refine⟨_,_,P0 (n:=X.length) h4 (jk hs) hsrc hf hl hm,.inr ⟨by simp,h.next,hlo,Nat.lt_succ_self _,by rw[List.length_append];rfl,?_⟩,Nat.le_succ _,fun c hc=>?_⟩
   ·have:=aj (h:=h.del b) (x:=.cells (aa M++aa (y::X)) true s);rw[show(h.del b).next=h.next from rfl] at this;rw[this,lK]
   ·have hne:c≠b:=by omega
    exact(aA (h:=h.del b) (show c<h.next by omega)).trans (oV hne)
theorem Kk{s b n i:Nat}(hi:i≤n):pV (.slice s false true false) [.sl b 0 n n true,.int .i64 ((i:Nat):Int)]=some (.sl b 0 i n true):=by
 have h0:asNat (.int .i64 ((i:Nat):Int))=some i:=by simp[asNat]
 have hb:bounds n n false true false [.int .i64 ((i:Nat):Int)]=some (0,i,n):=by
  simp only[bounds,h0,Option.map_some];rw[Nat.ble_eq_true_of_le (Nat.zero_le _),Nat.ble_eq_true_of_le hi,Nat.ble_eq_true_of_le (Nat.le_refl _)];rfl
 show lS s false true false (.sl b 0 n n true) [.int .i64 ((i:Nat):Int)]=_;simp only[lS,KD,hb,Bool.not_false,cond_false];have:(Nat.beq n 0&&Nat.beq n n&&(true&&true&&!Nat.beq 0 0))=false:=by simp
 rw[this];have Co:0+cond (Nat.beq n 0) 0 (0*s)=0:=by cases Nat.beq n 0<;>simp
 simp only[cond_false,Co,Nat.sub_zero]
theorem Kj{s b n lo:Nat}{h:Heap}{vs:List AV}{wr:Bool}{es:Nat}(hg:h.get b=some (.cells vs wr es))(hv:vs.length=n*s)(hl:lo≤n):∃x,pV (.slice s true false false) [.sl b 0 n n true,.int .i64 ((lo:Nat):Int)]=some x∧∀h':Heap,h'.get b=h.get b→dm s h' x=some (n-lo,vs.drop (lo*s)):=by
 have h0:asNat (.int .i64 ((lo:Nat):Int))=some lo:=by simp[asNat]
 have hb:bounds n n true false false [.int .i64 ((lo:Nat):Int)]=some (lo,n,n):=by
  simp only[bounds,h0,Option.map_some];rw[Nat.ble_eq_true_of_le hl,Nat.ble_eq_true_of_le (Nat.le_refl _)];rfl
 have hp:pV (.slice s true false false) [.sl b 0 n n true,.int .i64 ((lo:Nat):Int)]=some (cond (Nat.beq n lo&&Nat.beq n n&&(true&&true&&!Nat.beq lo 0)) (.rest b 0 (lo*s)) (.sl b (0+cond (Nat.beq n lo) 0 (lo*s)) (n-lo) (n-lo) true)):=by
  show lS s true false false (.sl b 0 n n true) [.int .i64 ((lo:Nat):Int)]=_;simp only[lS,KD,hb,Bool.not_false,cond_false];cases(Nat.beq n lo&&Nat.beq n n&&(true&&true&&!Nat.beq lo 0))<;>rfl
 refine⟨_,hp,fun h' hh=>?_⟩;cases hc:Nat.beq n lo with
 |true=>
  have hn:=Nat.eq_of_beq_eq_true hc;have hd:vs.drop (lo*s)=[]:=List.eq_nil_of_length_eq_zero (by rw[List.length_drop,hv,hn];omega);rw[hd,hn,Nat.sub_self];cases(true&&Nat.beq lo lo&&(true&&true&&!Nat.beq lo 0)) with
  |true=>rfl
  |false=>
   show(h'.aZ b _ (0*s)).map _=_;rw[Nat.zero_mul,bR (hh.trans hg) (by simp)];simp
 |false=>
  simp only[Bool.false_and,cond_false,Nat.zero_add];have hm:lo*s+(n-lo)*s=n*s:=by rw[←Nat.add_mul];congr 1;omega
  show(h'.aZ b (lo*s) ((n-lo)*s)).map _=_;rw[bR (hh.trans hg) (by omega)];simp only[Option.map_some];rw[List.take_of_length_le (by rw[List.length_drop];omega)]
theorem yp{s:Nat}:∀{M:List AV} {i:Nat},aO s M=true→(aa M).drop (i*s)=aa (M.drop i)
 |M,0,_=>by simp
 |[],i+1,_=>by simp[aa]
 |x::M,i+1,hs=>by
  have hx:x.cells.length=s∧aO s M=true:=by simpa[aO] using hs
  show(x.cells++aa M).drop ((i+1)*s)=aa (M.drop i);rw[show(i+1)*s=x.cells.length+i*s by rw[hx.1,Nat.add_mul];omega,←List.drop_drop,List.drop_left',yp hx.2];rfl
theorem yq{s:Nat}:∀{M:List AV} {i:Nat},aO s M=true→(aa M).take (i*s)=aa (M.take i)
 |M,0,_=>by simp[aa]
 |[],i+1,_=>by simp[aa]
 |x::M,i+1,hs=>by
  have hx:x.cells.length=s∧aO s M=true:=by simpa[aO] using hs
  show(x.cells++aa M).take ((i+1)*s)=x.cells++aa (M.take i);rw[show(i+1)*s=x.cells.length+i*s by rw[hx.1,Nat.add_mul];omega,List.take_length_add_append,yq hx.2]
end Ads
namespace Ir
section
variable {h h':Heap} {s:Nat} {tv v:AV} {T:List Tk} {L:List En} {Q:AV→Heap→Prop} {t:Int}
theorem OD(S:qB h s tv v T L)(hL:L.length≤900){B:Nat}{Q:AX→Env→Heap→Prop}(hQ:∀e',dw L t<0→Q (.exit 0) e' h)
  (hR:∀e' h' v' i (hi:i<L.length),dw L t=((i:Nat):Int)→qB h' s tv v' T (L.eraseIdx i)→Fr h h' [s]→(∀d,d∈dN v'→h.next≤d)→dr e' [(4,.int .i64 L[i].2),(5,.int .i64 0)]→Q .ret e' h'):
  ∀(k:Nat) (J:Int) (env:Env),J=(k:Int)-1→k≤L.length→dw L t=ju L t k→dr env [(0,.ptr s 0),(1,.int .i64 t),(6,.int .i64 J)]→VC fs ms B false (.loop eA) env h Q:=by
 intro k;induction k with
 |zero=>
  intro J env hJ hk hl dF;refine aH 5 _ dF ?_;refine cS (aq (z:=true) ?_);conv=>whnf
  refine nE (by simp;omega) (fun hc=>?_)
  (try rw[hc])
  conv=>whnf
  exact hQ _ (by rw[hl];show(-1:Int)<0;decide)
 |succ k ih=>
  intro J env hJ hk hl dF;have hJ:J=((k:Nat):Int):=by omega
  subst hJ;have hlt:k<L.length:=by omega
  have Iw:ju L t (k+1)=if(L[k].1==t) then((k:Nat):Int) else ju L t k:=by rw[ju,List.getElem?_eq_getElem hlt]
  obtain⟨b,s6,oB⟩:=GR.at S.en (fq L) (i:=k) (by rw[bw];exact hlt);have Av:=oB 0 (.int .i64 L[k].1) (by simp[dK,en,AV.cells]);have Eg:=oB 1 (.int .i64 L[k].2) (by simp[dK,en,AV.cells]);have hw:IntKind.i64.wrap (((k:Nat):Int)-1)=(k:Int)-1:=IntWalk.i64_in _ (by omega);have hw2:IntKind.i64.wrap (((k:Nat):Int)+1)=((k+1:Nat):Int):=by rw[IntWalk.i64_in _ (by omega)];omega
  refine aH 5 _ dF ?_;refine cS (aF true ?_);conv=>whnf
  refine bu (bx (aF true ?_));conv=>whnf
  refine⟨_,aT S.st rfl,?_⟩;conv=>whnf
  refine⟨_,s6,?_⟩;conv=>whnf
  refine⟨_,Av,?_⟩;conv=>whnf
  refine gW ?_;conv=>whnf
  refine br (fun hc=>?_) (fun hc=>?_)<;>(try rw[hc])<;>(conv=>whnf)
  rotate_left
  ·rw[if_neg (by simpa using hc)] at Iw;refine aq (z:=true) ?_;conv=>whnf
   refine aq (z:=true) ?_;conv=>whnf
   exact ih _ _ hw (by omega) (hl.trans Iw) ⟨rfl,rfl,rfl,trivial⟩
  rw[if_pos hc] at Iw;have QM:=S.en;rcases QM with⟨h0,_⟩|⟨_,c,k1,k2,rfl,k4⟩
  ·rw[←List.length_eq_zero_iff,bw] at h0;omega
  have hvl:(aa (dK L)).length=(dK L).length*2:=jk (fq L);have hp1:=Kk (s:=2) (b:=c) (n:=(dK L).length) (i:=k) (by rw[bw];omega);obtain⟨x2,SP,uO⟩:=Kj (s:=2) (lo:=k+1) k4 hvl (by rw[bw];omega);rw[←hw2] at SP;have rR:dm 2 h (.sl c 0 k (dK L).length true)=some (((dK L).take k).length,aa ((dK L).take k)):=by
   have hk2:((dK L).take k).length=k:=by rw[List.length_take,bw];omega
   rw[Ai k4 (by rw[hvl,bw];omega),hk2,List.drop_zero,yq (fq L)]
  have Pt:∀M:List En,bA (aa (dK M))=true:=yo;have e1:(dK L).take k=dK (L.take k):=by rw[dK,dK,List.map_take]
  have e2:(dK L).drop (k+1)=dK (L.drop (k+1)):=by rw[dK,dK,List.map_drop]
  rw[e1] at rR;refine aq (z:=true) ?_;conv=>whnf
  refine⟨_,aT S.st rfl,?_⟩;conv=>whnf
  refine⟨_,s6,?_⟩;conv=>whnf
  refine⟨_,Eg,?_⟩;conv=>whnf
  refine⟨_,aT S.st rfl,?_⟩;conv=>whnf
  refine⟨_,hp1,?_⟩;conv=>whnf
  obtain⟨o1,g1,ha1,H6,KK,xC⟩:=GR.Tn (bytes:=16) (lo:=h.next) (h:=h) (v:=.aL) (M:=[]) (.inl ⟨rfl,rfl⟩) (Nat.le_refl _) rR (Pt _) rfl (by rw[bw,List.length_take];simp;omega) (by rw[bw,List.length_take];simp;omega);refine⟨_,_,ha1,?_⟩;rw[List.nil_append] at H6;have Z6:g1.get s=some (.cells [tv,.sl c 0 (dK L).length (dK L).length true] true 0):=(xC s S.lt).trans S.st;have hs3:=uO g1 (xC c k2);rw[yp (fq L),e2,show(dK L).length-(k+1)=(dK (L.drop (k+1))).length by rw[bw,bw,List.length_drop]] at hs3;conv=>whnf
  refine⟨_,aT Z6 rfl,?_⟩;conv=>whnf
  refine⟨_,SP,?_⟩;conv=>whnf
  obtain⟨o2,g2,ha2,Na,hn2,hk2⟩:=GR.Tn (bytes:=16) H6 KK hs3 (Pt _) (fq _) (by rw[bw,bw,List.length_take,List.length_drop];omega) (by rw[bw,bw,List.length_take,List.length_drop];omega);refine⟨_,_,ha2,?_⟩;have gs2:g2.get s=some (.cells [tv,.sl c 0 (dK L).length (dK L).length true] true 0):=(hk2 s S.lt).trans Z6;obtain⟨c1,c2,c3⟩:=GR.RO Na;conv=>whnf
  refine bW (bq gs2 c2 (by show 0+0+1+1≤2;omega) c3) fun h3 e3=>?_;have g3:h3.get s=some (.cells [tv,o2] true 0):=by rw[e3,ay,c1];rfl
  have f3:Fr g2 h3 [s]:=by rw[e3];exact(Fr.refl g2 _).set (by simp)
  clear e3;conv=>whnf
  have f13:Fr h h3 [s]:=⟨Nat.le_trans KK (Nat.le_trans hn2 f3.next),fun d hd hn=>(f3.keep d (by omega) hn).trans ((hk2 d hd).trans (xC d hd))⟩;have rT:∀d,d∈dN o2→h.next≤d:=fun d hd=>(GR.Gg Na hd).1;refine hR _ h3 o2 k hlt (hl.trans Iw) ⟨Nat.lt_of_lt_of_le S.lt f13.next,g3,S.tr.keep f13 (fun d hd=>by simp only[List.mem_singleton];exact fun e=>S.nt (e▸hd)),?_,S.nt⟩ f13 rT ⟨rfl,rfl,trivial⟩;have hg:GR 2 h.next g2 o2 (dK (L.eraseIdx k)):=by rw[List.eraseIdx_eq_take_drop_succ,dK,List.map_append];exact Na
  exact GR.WC hg (Nat.zero_le _) f3.next fun d hd=>f3.keep d (GR.Gg Na hd).2.1 (by have:=rT d hd;have:=S.lt;simp;omega)
end
theorem JO{e:Env}{h:Heap}{a b:Nat}{v w:AV}(ha:Tr.get e a=some v)(hb:Tr.get e b=some w):dH e h [.tmp a,.tmp b]=some [v,w]:=by
 simp only[dH,n8,ha,hb]
section
variable {h h':Heap} {s:Nat} {tv v:AV} {T:List Tk} {L:List En} {Q:AV→Heap→Prop} {t:Int}
theorem EX(S:qB h s tv v T L)(hL:L.length≤900)(h0:iV T L t≠0→Q (.cq [.int .i64 0,.int .i64 (iV T L t)]) h)
  (h1:iV T L t=0→∀i (hi:i<L.length),dw L t=((i:Nat):Int)→∀h' v',qB h' s tv v' T (L.eraseIdx i)→Fr h h' [s]→(∀d,d∈dN v'→h.next≤d)→Q (.cq [.int .i64 L[i].2,.int .i64 0]) h'):VD fs ms 123 [.ptr s 0,.int .i64 t] h Q:=by
 refine bY (af:=Ld) rfl (Nat.le_of_ble_eq_true rfl) ?_;conv=>whnf
 refine aF true ?_;conv=>whnf
 have CU:cz T t=9→Q (.cq [.int .i64 0,.int .i64 9]) h:=fun hn=>by
  have e:iV T L t=9:=by rw[iV,if_pos (by simp[hn]),hn]
  rw[e] at h0;exact h0 (by decide)
 refine bu (aF true ?_);conv=>whnf
 refine br (fun hc=>?_) (fun hc=>?_)<;>(try rw[hc])<;>(conv=>whnf)
 ·refine gW ?_;conv=>whnf
  refine aq (z:=true) ?_;conv=>whnf
  exact CU (by rw[cz,hc];rfl)
 have hneg:=hc;refine⟨_,aT S.st rfl,?_⟩;conv=>whnf
 rw[S.tr.len];conv=>whnf
 refine gW ?_;conv=>whnf
 refine br (fun hc=>?_) (fun hc=>?_)<;>(try rw[hc])<;>(conv=>whnf)
 ·refine aq (z:=true) ?_;conv=>whnf
  exact CU (by rw[cz,hneg,hc];rfl)
 have ha:cz T t=0:=by rw[cz,hneg,hc];rfl
 have hu:iV T L t=if decide (dw L t<0) then 132 else 0:=by rw[iV,if_neg (by simp[ha])]
 refine aq (z:=true) ?_;conv=>whnf
 refine bu (aF true ?_);conv=>whnf
 refine⟨_,aT S.st rfl,?_⟩;conv=>whnf
 rw[GR.len S.en,bw];conv=>whnf
 have hw:IntKind.i64.wrap (((L.length:Nat):Int)-1)=(L.length:Int)-1:=IntWalk.i64_in _ (by omega);refine bx ?_;refine OD S hL (fun e' hl=>?_) (fun e' h' v' i hi hla S' f hv he=>?_) L.length _ _ hw (Nat.le_refl _) rfl ⟨rfl,rfl,rfl,trivial⟩
 ·rw[if_pos (by simpa using hl)] at hu;rw[hu] at h0;show VC fs ms _ false _ _ _ _;refine aH 3 [] trivial (aq (z:=true) ?_);conv=>whnf
  exact h0 (by decide)
 ·rw[if_neg (by simp;omega)] at hu;conv=>whnf
  refine dM (v:=[.int .i64 L[i].2,.int .i64 0]) (JO he.1 he.2.1) ?_;exact h1 hu i hi hla h' v' S' f hv
theorem yW{n:Nat}:∀{M:List AV} {x:AV},aO n M=true→x.cells.length=n→aO n (M++[x])=true
 |[],x,_,hx=>by simp[aO,hx]
 |y::M,x,hs,hx=>by
  have h1:y.cells.length=n∧aO n M=true:=by simpa[aO] using hs
  have:=yW h1.2 hx;simp[aO,h1.1,this]
theorem Ik{L:List En}{t:Int}(h:dw L t<0):bz L t=[]:=by
 rw[bz,List.filter_eq_nil_iff.2]
 ·rfl
 ·intro x hx;obtain⟨i,hi,rfl⟩:=List.getElem_of_mem hx;rw[rz L t L.length (Nat.le_refl _) h i hi hi];simp
theorem Il{L:List En}{t:Int}{i:Nat}(hi:i<L.length)(h:dw L t=((i:Nat):Int)):bz L t≠[]:=by
 have:=sD L t L.length (Nat.le_refl _) i hi h;intro hz;have hm:L[i].2∈bz L t:=List.mem_map.2 ⟨L[i],List.mem_filter.2 ⟨List.getElem_mem hi,this⟩,rfl⟩;rw[hz] at hm;simp at hm
theorem NC(L:List En)(t:Int):dw L t<0∨∃i,i<L.length∧dw L t=((i:Nat):Int):=by
 rcases wh L t L.length (Nat.le_refl _) with h|h
 ·exact .inl (by rw[dw,h];decide)
 ·exact .inr h
theorem JZ{h0:Heap}{v0:AV}{L0:List En}(S0:qB h0 s tv v0 T L0)(ha:cz T t=0){B:Nat}{Q:AX→Env→Heap→Prop}(hQ:∀e' h' v' w,qB h' s tv v' T (jH L0 t)→Fr h0 h' [s]→(∀d,d∈dN v'→d∈dN v0∨h0.next≤d)→dr e' [(5,w)]→Q (.exit 0) e' h'):
  ∀(m:Nat) (L:List En) (M:List AV) (h:Heap) (env:Env) (v w:AV),L.length≤m→M.length+L.length≤900→qB h s tv v T L→Fr h0 h [s]→(∀d,d∈dN v→d∈dN v0∨h0.next≤d)→jH L t=jH L0 t→GR 1 h0.next h w M→aO 1 M=true→dr env [(0,.ptr s 0),(1,.int .i64 t),(5,w)]→
   VC fs ms B false (.loop eU) env h Q:=by
 intro m;induction m with
 |zero=>
  intro L M h env v w hm hb S fr hv hd hr hs dF;have hL:L=[]:=List.eq_nil_of_length_eq_zero (by omega);subst hL;refine aH 5 _ dF ?_;refine cS (aq (z:=true) ?_);conv=>whnf
  refine nj S (by simp) fun h1 w1 H6 dy=>?_;conv=>whnf
  rw[GR.len H6];conv=>whnf
  refine hQ _ h1 v w (hd▸S.nil dy) (fr.trans ⟨dy.next,fun c hc _=>dy.keep c hc (by simp)⟩) hv ⟨rfl,trivial⟩
 |succ m ih=>
  intro L M h env v w hm hb S fr hv hd hr hs dF;refine aH 5 _ dF ?_;rcases NC L t with hl|⟨i,hi,hl⟩
  ·have hz:=Ik hl;refine cS (aq (z:=true) ?_);conv=>whnf
   refine nj S (by omega) fun h1 w1 H6 dy=>?_;rw[hz] at H6;conv=>whnf
   rw[GR.len H6];conv=>whnf
   rw[yg hl] at hd;refine hQ _ h1 v w (hd▸S.nil dy) (fr.trans ⟨dy.next,fun c hc _=>dy.keep c hc (by simp)⟩) hv ⟨rfl,trivial⟩
  ·have hne:=Il hi hl;have hpos:0<(bz L t).length:=List.length_pos_iff.2 hne;refine cS (aF true ?_);conv=>whnf
   refine nj S (by omega) fun h1 w1 H6 dy=>?_;conv=>whnf
   rw[GR.len H6,bI];conv=>whnf
   refine qt (by simp;omega) (fun hc=>?_)
   (try rw[hc])
   conv=>whnf
   have S1:=S.nil dy;have Bp:GR 1 h0.next h1 w M:=hr.keep dy (by simp);have Tz:Fr h0 h1 [s]:=fr.trans ⟨dy.next,fun c hc _=>dy.keep c hc (by simp)⟩;refine bx (aF true ?_);conv=>whnf
   have hu:iV T L t=0:=by rw[iV,if_neg (by simp[ha]),if_neg (by simp;omega)]
   refine EX S1 (by omega) (fun h=>(h hu).elim) (fun _ i' hi' hl' h2 v2 S2 ey IT=>?_);have:i'=i:=by omega
   subst this;conv=>whnf
   have xD:GR 1 h0.next h2 w M:=by
    rcases Bp with h|⟨q0,b,q1,q2,q3,q4⟩
    ·exact .inl h
    ·exact .inr ⟨q0,b,q1,Nat.lt_of_lt_of_le q2 ey.next,q3,(ey.keep b q2 (by simp;have:=S0.lt;omega)).trans q4⟩
   have M8:=Tz.trans ey;obtain⟨w',g',hap,Yy,fr'⟩:=GR.To (bytes:=8) xD (x:=.int .i64 L[i'].2) rfl rfl hs (by omega) (by omega);refine aq (z:=true) ?_;conv=>whnf
   refine⟨_,_,hap,?_⟩;conv=>whnf
   have w2:∀c,c∈dN w→h0.next≤c∧∃cs,h2.get c=some (.cells cs true 1):=fun c hc=>⟨(GR.Gg xD hc).1,_,(GR.Gg xD hc).2.2⟩;have S3:qB g' s tv v2 T (L.eraseIdx i'):=by
    refine S2.keep fr' (fun hm=>?_) (fun c hc hm=>?_) (fun c hc hm=>?_)
    ·have:=(w2 s hm).1;have:=S0.lt;omega
    ·obtain⟨_,cs,hg⟩:=w2 c hm;rcases S2.tr with⟨_,h2|⟨b,h2,_,h4⟩⟩|⟨b,op,h2,_,h4⟩
     ·rw[h2] at hc;simp[dN] at hc
     ·rw[h2] at hc;simp[dN] at hc;subst hc;rw[h4] at hg;simp at hg
     ·rw[h2] at hc;simp[dN] at hc;subst hc;rw[h4] at hg;simp at hg
    ·obtain⟨_,cs,hg⟩:=w2 c hm;have:=(GR.Gg S2.en hc).2.2;rw[this] at hg;simp at hg
   have Yt:Fr h0 g' [s]:=⟨Nat.le_trans M8.next fr'.next,fun c hc hn=>(fr'.keep c (Nat.lt_of_lt_of_le hc M8.next) (fun hm=>by have:=(w2 c hm).1;omega)).trans (M8.keep c hc hn)⟩;refine ih (L.eraseIdx i') (M++[.int .i64 L[i'].2]) g' _ v2 w' ?_ ?_ S3 Yt (fun d hd'=>.inr (Nat.le_trans Tz.next (IT d hd'))) ((drop_one hi hl).trans hd) (GR.WC Yy M8.next (Nat.le_refl _) (fun _ _=>rfl)) ?_ ⟨rfl,rfl,rfl,trivial⟩
   ·rw[List.length_eraseIdx,if_pos hi];omega
   ·rw[List.length_eraseIdx,if_pos hi];simp;omega
   ·exact yW hs rfl
theorem JY(S:qB h s tv v T L)(ha:cz T t=0)(hL:L.length≤900)(hQ:∀h' w v',qB h' s tv v' T (jH L t)→Fr h h' [s]→(∀d,d∈dN v'→d∈dN v∨h.next≤d)→Q w h'):VD fs ms 127 [.ptr s 0,.int .i64 t] h Q:=by
 refine bY (af:=Lh) rfl (Nat.le_of_ble_eq_true rfl) ?_;conv=>whnf
 refine aF true ?_;conv=>whnf
 refine aF true ?_;conv=>whnf
 refine bu ?_;refine bx ?_;refine JZ S ha ?_ L.length L [] h _ v .aL (Nat.le_refl _) (by simpa using hL) S (Fr.refl _ _) (fun d hd=>.inl hd) rfl (.inl ⟨rfl,rfl⟩) rfl ⟨rfl,rfl,rfl,trivial⟩;intro e' h' v' w S' f hv he;show VC fs ms h.next false _ _ _ _;refine aH 3 _ he (aq (z:=true) ?_);conv=>whnf
 exact hQ h' w v' S' f hv
theorem OA{k:Nat}(hT:T.length≤4)(hQ:∀h' s tv,qB h' s tv .aL T []→h.next≤s→(∀d,d∈dN tv→h.next≤d)→Fr h h' []→Q (.cq [.ptr s 0,.int .i64 0]) h'):VD fs ms 58 [.fz k (eP T)] h Q:=by
 refine ak (af:=VG) true rfl (Nat.le_of_ble_eq_true rfl) ?_;conv=>whnf
 refine nE (by rw[bt];simp;omega) (fun hc=>?_)
 (try rw[hc])
 conv=>whnf
 refine⟨_,aT aj rfl,?_⟩;conv=>whnf
 obtain⟨h1,hH⟩:∃h1,h1=h.new (.cells [.aL,.aL] true 0):=⟨_,rfl⟩;have g1:h1.get h.next=some (.cells [.aL,.aL] true 0):=by rw[hH];exact aj
 have f1:Fr h h1 []:=by rw[hH];exact(Fr.refl h []).new
 have n1:h1.next=h.next+1:=by rw[hH];rfl
 obtain⟨tv,g',ha,gr,fr⟩:=GR.copy (s:=8) (bytes:=64) (lo:=h1.next) (k:=k) (h:=h1) (M:=eP T) (Nat.le_refl _) (iy T) (tD T) (by rw[bt];omega) (by rw[bt];omega);obtain⟨c1,c2,c3⟩:=GR.RO gr;refine⟨tv,g',by rw[←ha,hH];rfl,?_⟩;conv=>whnf
 have g2:=(fr.keep h.next (by omega) (by simp)).trans g1;refine bW (bq g2 c2 (by show 0+0+1≤2;omega) c3) fun h3 e3=>?_;have g3:h3.get h.next=some (.cells [tv,.aL] true 0):=by rw[e3,ay,c1];rfl
 have f3:Fr g' h3 [h.next]:=by rw[e3];exact(Fr.refl g' _).set (by simp)
 clear e3;conv=>whnf
 have fn:=fr.next;have eM:∀d,d∈dN tv→h.next<d:=fun d hd=>by have:=(GR.Gg gr hd).1;omega
 refine hQ h3 h.next tv ⟨by have:=f3.next;omega,g3,?_,.inl ⟨rfl,rfl⟩,fun hm=>by have:=eM _ hm;omega⟩ (Nat.le_refl _) (fun d hd=>Nat.le_of_lt (eM d hd)) ⟨by have:=f3.next;omega,fun c hc _=>(f3.keep c (by omega) (by simp;omega)).trans ((fr.keep c (by omega) (by simp)).trans (f1.keep c hc (by simp)))⟩;rcases gr with⟨hz,rfl⟩|⟨hne,b,q1,q2,rfl,q4⟩
 ·exact .inl ⟨List.map_eq_nil_iff.1 hz,.inl rfl⟩
 ·exact .inr ⟨b,true,by rw[bt],by have:=f3.next;omega,(f3.keep b q2 (by simp;omega)).trans q4⟩
end
def sh(col:Nat→Nat):Nat→Nat:=fun c=>col c-100
def DK(n:Nat):Prop:=RK (n-100)
section
variable {h h':Heap} {col aC c':Nat→Nat} {K:Nat→Prop}
theorem Kc.shf(f:Kc h h' col aC K):Kc h h' (sh col) (sh aC) (fun n=>∃m,K m∧m-100=n):=
 ⟨f.next,fun c hc hn=>f.keep c hc (fun hk=>hn ⟨_,hk,rfl⟩),fun c hc=>by simp only[sh,f.col c hc]⟩
theorem Kc.un(f:Kc h h' (sh col) c' RK):∃aC,sh aC=c'∧Kc h h' col aC DK:=by
 refine⟨fun x=>if x<h.next then col x else c' x+100,?_,f.next,fun c hc hn=>f.keep c hc hn,fun c hc=>if_pos hc⟩
 funext x
 by_cases hx:x<h.next
 ·have:=f.col x hx;simp only[sh] at this⊢;rw[if_pos hx,this]
 ·simp only[sh];rw[if_neg hx];omega
structure Mo(h:Heap)(col:Nat→Nat)(m s q:Nat)(tv gv:AV)(J n:Nat):Prop where
 lt:m<h.next
 co:col m=1
 get:h.get m=some (.cells [tv,gv,.ptr q 0,.ptr s 0,.sl J 0 n n false] true 0)
def Tj(h:Heap)(col:Nat→Nat)(tv:AV)(T:List Tk):Prop:=DM h tv T∧∀d,d∈dN tv→col d=6
def Cr(h:Heap)(col:Nat→Nat)(s:Nat)(T:List Tk)(L:List En):Prop:=∃tv v,qB h s tv v T L∧col s=2∧(∀d,d∈dN tv→col d=2)∧∀d,d∈dN v→col d=2
def Ax(h:Heap)(col:Nat→Nat)(q:Nat)(D:List Int):Prop:=∃b es op,rQ h q b es op D∧col q=3∧col b=3
def O3(h:Heap)(col:Nat→Nat)(i b:Nat)(j:Jb):Prop:=∃p C o v,JR h b p C o v j∧C<h.next∧col b=10+i∧col p=10+i∧col C=10+i
theorem Mo.keep{m s q J n:Nat}{tv gv:AV}(R:Mo h col m s q tv gv J n)(f:Kc h h' col aC K)(hK:¬K 1):Mo h' aC m s q tv gv J n:=
 ⟨Nat.lt_of_lt_of_le R.lt f.next,(f.col m R.lt).trans R.co,(f.keep m R.lt (by rw[R.co];exact hK)).trans R.get⟩
theorem Kc.fr(f:Kc h h' col aC K):Fr h h' ((List.range h.next).filter fun c=>@decide (K (col c)) (Classical.propDecidable _)):=by
 refine⟨f.next,fun c hc hn=>f.keep c hc fun hk=>hn ?_⟩;rw[List.mem_filter,List.mem_range];exact⟨hc,@decide_eq_true _ (Classical.propDecidable _) hk⟩
theorem Kc.not(col:Nat→Nat){h:Heap}{K:Nat→Prop}{c:Nat}(hk:¬K (col c)):c∉(List.range h.next).filter fun c=>@decide (K (col c)) (Classical.propDecidable _):=by
 intro hm;rw[List.mem_filter] at hm;exact hk (@of_decide_eq_true _ (Classical.propDecidable _) hm.2)
theorem Tj.keep{tv:AV}{T:List Tk}(R:Tj h col tv T)(f:Kc h h' col aC K)(hK:¬K 6):Tj h' aC tv T:=
 ⟨R.1.keep f.fr fun c hc=>Kc.not col (by rw[R.2 c hc];exact hK),fun d hd=>by rw[f.col d (R.1.lt d hd).1,R.2 d hd]⟩
theorem Cr.keep{s:Nat}{T:List Tk}{L:List En}(R:Cr h col s T L)(f:Kc h h' col aC K)(hK:¬K 2):Cr h' aC s T L:=by
 obtain⟨tv,v,S,c1,c2,c3⟩:=R;exact⟨tv,v,S.keep f.fr (Kc.not col (by rw[c1];exact hK)) (fun c hc=>Kc.not col (by rw[c2 c hc];exact hK)) (fun c hc=>Kc.not col (by rw[c3 c hc];exact hK)),
  by rw[f.col s S.lt,c1],fun d hd=>by rw[f.col d (S.tr.lt d hd).1,c2 d hd],fun d hd=>by rw[f.col d (GR.Gg S.en hd).2.1,c3 d hd]⟩
theorem Ax.keep{q:Nat}{D:List Int}(R:Ax h col q D)(f:Kc h h' col aC K)(hK:¬K 3):Ax h' aC q D:=by
 obtain⟨b,es,op,M,c1,c2⟩:=R;exact⟨b,es,op,M.keep f.fr (Kc.not col (by rw[c1];exact hK)) (Kc.not col (by rw[c2];exact hK)),by rw[f.col q M.lm,c1],by rw[f.col b M.lb,c2]⟩
theorem O3.keep{i b:Nat}{j:Jb}(R:O3 h col i b j)(f:Kc h h' col aC K)(hK:¬K (10+i)):O3 h' aC i b j:=by
 obtain⟨p,C,o,v,J,hC,c1,c2,c3⟩:=R;have hp:=J.rw.lt;refine⟨p,C,o,v,⟨Nat.lt_of_lt_of_le J.lt f.next,(f.keep b J.lt (by rw[c1];exact hK)).trans J.st,⟨Nat.lt_of_lt_of_le hp f.next,J.rw.ne,(f.keep p hp (by rw[c2];exact hK)).trans J.rw.st,?_⟩,J.n1,J.n2⟩,Nat.lt_of_lt_of_le hC f.next,by rw[f.col b J.lt,c1],by rw[f.col p hp,c2],by rw[f.col C hC,c3]⟩;have hr:=J.rw.row;cases hl:j.l with
 |nil=>rw[hl] at hr;exact hr
 |cons x l=>
  rw[hl] at hr;obtain⟨u,cs,e,h1,h2,h3⟩:=hr;exact⟨u,cs,e,Nat.lt_of_lt_of_le h1 f.next,(f.keep C hC (by rw[c3];exact hK)).trans h2,h3⟩
end
structure qz(h:Heap)(col:Nat→Nat)(m s q J:Nat)(tv gv:AV)(D:List Int)(ws:Ws)(gs:List (Nat×Int))(T:List Tk)(L:List En):Prop where
 n4:T.length≤4
 tl:ws.length=T.length
 gl:gs.length=T.length
 dB:Mo h col m s q tv gv J ws.length
 An:Tj h col tv T
 stk:Cr h col s T L
 z5:Ax h col q D
 kr:Tg h col J ws
 mP:∀i w,ws[i]?=some (some w)→O3 h col i w.1 w.2
 uL:Td h col gv gs T
section
variable {h h':Heap} {col aC:Nat→Nat} {K:Nat→Prop} {m s q J:Nat} {tv gv:AV} {D:List Int} {ws:Ws} {gs:List (Nat×Int)} {T:List Tk} {L:List En}
theorem qz.len(R:qz h col m s q J tv gv D ws gs T L){i:Nat}{w:Option (Nat×Jb)}(hw:ws[i]?=some w):i<4:=by
 have:=(List.getElem?_eq_some_iff.1 hw).1;have:=R.tl;have:=R.n4;omega
theorem qz.keep(R:qz h col m s q J tv gv D ws gs T L)(f:Kc h h' col aC K)(hK:∀n,1≤n→n<30→¬K n):qz h' aC m s q J tv gv D ws gs T L:=
 ⟨R.n4,R.tl,R.gl,R.dB.keep f (hK 1 (by omega) (by omega)),R.An.keep f (hK 6 (by omega) (by omega)),R.stk.keep f (hK 2 (by omega) (by omega)),R.z5.keep f (hK 3 (by omega) (by omega)),R.kr.keep f (hK 4 (by omega) (by omega)),
  fun i w hw=>(R.mP i w hw).keep f (hK _ (by omega) (by have:=R.len hw;omega)),R.uL.keep f (hK 5 (by omega) (by omega)) (fun i hi=>hK _ (by omega) (by have:=R.gl;have:=R.n4;omega))⟩
theorem qz.nil(R:qz h col m s q J tv gv D ws gs T L)(f:Fr h h' []):qz h' col m s q J tv gv D ws gs T L:=
 R.keep (K:=fun _=>False) (Kc.same f) (fun _ _ _ h=>h)
theorem qz.DA{L':List En}(R:qz h col m s q J tv gv D ws gs T L)(f:Kc h h' col aC (· =2))(S:Cr h' aC s T L'):qz h' aC m s q J tv gv D ws gs T L':=
 ⟨R.n4,R.tl,R.gl,R.dB.keep f (by decide),R.An.keep f (by decide),S,R.z5.keep f (by decide),R.kr.keep f (by decide),fun i w hw=>(R.mP i w hw).keep f (by omega),R.uL.keep f (by decide) (by intro i _;omega)⟩
theorem qz.Ju{D':List Int}(R:qz h col m s q J tv gv D ws gs T L)(f:Kc h h' col aC (· =3))(S:Ax h' aC q D'):qz h' aC m s q J tv gv D' ws gs T L:=
 ⟨R.n4,R.tl,R.gl,R.dB.keep f (by decide),R.An.keep f (by decide),R.stk.keep f (by decide),S,R.kr.keep f (by decide),fun i w hw=>(R.mP i w hw).keep f (by omega),R.uL.keep f (by decide) (by intro i _;omega)⟩
theorem qz.we{i b:Nat}{j j':Jb}(R:qz h col m s q J tv gv D ws gs T L)(hw:ws[i]?=some (some (b,j)))(f:Kc h h' col aC (· =10+i))(S:O3 h' aC i b j'):qz h' aC m s q J tv gv D (ws.set i (some (b,j'))) gs T L:=by
 have hi:=R.len hw;have hl:=(List.getElem?_eq_some_iff.1 hw).1;have e:(ws.set i (some (b,j'))).map (Option.map Prod.fst)=ws.map (Option.map Prod.fst):=by
  apply List.ext_getElem?;intro n;rw[List.getElem?_map,List.getElem?_map,List.getElem?_set];by_cases e:i=n
  ·subst e;rw[if_pos rfl,if_pos hl,hw];rfl
  ·rw[if_neg e]
 refine⟨R.n4,by rw[List.length_set];exact R.tl,R.gl,?_,R.An.keep f (by omega),R.stk.keep f (by omega),R.z5.keep f (by omega),?_,fun n w hn=>?_,R.uL.keep f (by omega) (by intro i _;omega)⟩
 ·rw[List.length_set];exact R.dB.keep f (by omega)
 ·obtain⟨a1,a2,a3⟩:=R.kr.keep f (by omega);exact⟨a1,a2,by rw[e];exact a3⟩
 ·rw[List.getElem?_set] at hn;by_cases e:i=n
  ·subst e;rw[if_pos rfl,if_pos hl] at hn;cases hn
   exact S
  ·rw[if_neg e] at hn;exact(R.mP n w hn).keep f (by omega)
def dQ(js:List (Option Jb)):List Int:=js.map fun o=>match o with|some j=>j.e|none=>-1
def RC(h:Heap)(col:Nat→Nat)(m:Nat)(st:St):Prop:=∃s q J tv gv ws gs,qz h col m s q J tv gv (dQ st.j) ws gs st.T st.L∧st.j=wj ws∧st.g=gs.map Prod.snd∧∀(i:Nat) (j:Jb),st.j[i]?=some (some j)→j.l.length≤32∧0≤j.e
theorem RC.keep{st:St}(R:RC h col m st)(f:Kc h h' col aC K)(hK:∀n,1≤n→n<30→¬K n):RC h' aC m st:=by
 obtain⟨s,q,J,tv,gv,ws,gs,R,e1,e2,e4⟩:=R;exact⟨s,q,J,tv,gv,ws,gs,R.keep f hK,e1,e2,e4⟩
theorem RC.nil{st:St}(R:RC h col m st)(f:Fr h h' []):RC h' col m st:=R.keep (K:=fun _=>False) (Kc.same f) (fun _ _ _ h=>h)
theorem RC.we{i b:Nat}{st:St}{j j':Jb}(R:qz h col m s q J tv gv (dQ st.j) ws gs st.T st.L)(h1:st.j=wj ws)(h2:st.g=gs.map Prod.snd)(h4:∀(i:Nat) (j:Jb),st.j[i]?=some (some j)→j.l.length≤32∧0≤j.e)
  (hw:ws[i]?=some (some (b,j)))(f:Kc h h' col aC (· =10+i))(S:O3 h' aC i b j')(he:j'.e=j.e)(hl:j'.l.length≤j.l.length):RC h' aC m {st with j:=st.j.set i (some j')}:=by
 have hj:st.j[i]?=some (some j):=by rw[h1];exact dn hw
 have KH:=(List.getElem?_eq_some_iff.1 hj).1;have hd:dQ (st.j.set i (some j'))=dQ st.j:=by
  rw[dQ,List.map_set];refine dc ?_;rw[List.getElem?_map,hj];show some j.e=some j'.e;rw[he]
 refine⟨s,q,J,tv,gv,_,gs,by rw[hd];exact R.we hw f S,by rw[Aq,←h1],h2,fun n jn hn=>?_⟩;have hn:(st.j.set i (some j'))[n]?=some (some jn):=hn;rw[List.getElem?_set] at hn;by_cases e:i=n
 ·rw[if_pos e,if_pos KH] at hn;cases hn
  have:=h4 i j hj;exact⟨by omega,by omega⟩
 ·rw[if_neg e] at hn;exact h4 n jn hn
end
section
variable {h h':Heap} {col aC:Nat→Nat} {m s q J:Nat} {tv gv:AV} {D:List Int} {ws:Ws} {gs:List (Nat×Int)} {T:List Tk} {L:List En} {st:St} {Q:AV→Heap→Prop} {t:Int}
theorem BG(KM:ws.length=T.length):lY T (wj ws) t=9∧cz T t=9∨(cz T t=0∧∃i:Nat,t=((i:Nat):Int)∧i<T.length∧(ws[i]?=some none∧lY T (wj ws) t=250∨∃b j,ws[i]?=some (some (b,j))∧lY T (wj ws) t=0)):=by
 by_cases ha:cz T t=0
 ·obtain⟨i,rfl,hi⟩:=td ha;refine .inr ⟨ha,i,rfl,hi,?_⟩;have hw:ws[i]?=some (ws[i]'(by omega)):=List.getElem?_eq_getElem _;cases hc:ws[i]'(by omega) with
  |none=>
   rw[hc] at hw;exact .inl ⟨hw,BF hi (sW hw)⟩
  |some w=>
   rw[hc] at hw;exact .inr ⟨w.1,w.2,hw,gO hi (dn hw)⟩
 ·have h9:cz T t=9:=by
   rw[cz] at ha⊢;split at ha
   ·rename_i hh;rw[if_pos hh]
   ·exact absurd rfl ha
  exact .inl ⟨by rw[EE ha,h9],h9⟩
theorem oz(R:qz h col m s q J tv gv D ws gs T L)(hQ:Q (.int .i64 (lY T (wj ws) t)) h):VD fs ms 118 [.ptr m 0,.int .i64 t] h Q:=by
 have hl:=R.tl;have n4:=R.n4;rcases BG (t:=t) hl with⟨h9,ha⟩|⟨ha,i,rfl,hi,hcs⟩<;>refine ak (af:=K8) true rfl (Nat.le_of_ble_eq_true rfl) ?_
 ·rw[h9] at hQ;conv=>whnf
  refine br (fun hc=>?_) (fun hc=>?_)<;>(try rw[hc])<;>(conv=>whnf)
  ·exact hQ
  have hneg:=hc;repeat(first|(refine⟨_,aT R.dB.get rfl,?_⟩;conv=>whnf))
  rw[R.An.1.len];conv=>whnf
  refine br (fun hc=>?_) (fun hc=>?_)<;>(try rw[hc])<;>(conv=>whnf)
  ·exact hQ
  ·rw[cz,hneg,hc] at ha;exact absurd ha (by decide)
 ·have It:i<ws.length:=by omega
  conv=>whnf
  repeat(first|(refine⟨_,aT R.dB.get rfl,?_⟩;conv=>whnf))
  rw[R.An.1.len];conv=>whnf
  refine nE (by simp;omega) (fun hc=>?_)
  (try rw[hc])
  conv=>whnf
  rcases hcs with⟨hw,ho⟩|⟨b,j,hw,ho⟩
  ·have hg:((ws.map (Option.map Prod.fst)).map xF)[i*1]?=some (xF none):=by rw[Nat.mul_one,List.getElem?_map,List.getElem?_map,hw];rfl
   repeat(first|(refine⟨_,aT R.dB.get rfl,?_⟩;conv=>whnf)|(refine⟨_,aJ It,?_⟩;conv=>whnf)|(refine⟨_,aT R.kr.get hg,?_⟩;conv=>whnf))
   rw[ho] at hQ;exact hQ
  ·have hg:((ws.map (Option.map Prod.fst)).map xF)[i*1]?=some (xF (some b)):=by rw[Nat.mul_one,List.getElem?_map,List.getElem?_map,hw];rfl
   repeat(first|(refine⟨_,aT R.dB.get rfl,?_⟩;conv=>whnf)|(refine⟨_,aJ It,?_⟩;conv=>whnf)|(refine⟨_,aT R.kr.get hg,?_⟩;conv=>whnf))
   rw[ho] at hQ;exact hQ
theorem kG(KM:ws.length=T.length){js:List (Option Jb)}(e1:js=wj ws)(h:lY T js t=0):∃(i b:Nat) (j:Jb),t=((i:Nat):Int)∧i<T.length∧ws[i]?=some (some (b,j))∧js[i]?=some (some j):=by
 subst e1;rcases BG (t:=t) KM with⟨h9,_⟩|⟨_,i,rfl,hi,⟨_,ho⟩|⟨b,j,hw,ho⟩⟩
 ·rw[h9] at h;exact absurd h (by decide)
 ·rw[ho] at h;exact absurd h (by decide)
 ·exact⟨i,b,j,rfl,hi,hw,dn hw⟩
theorem fN{i b:Nat}{j:Jb}(hw:ws[i]?=some (some (b,j))):((ws.map (Option.map Prod.fst)).map xF)[i*1]?=some (.ptr b 0):=by
 rw[Nat.mul_one,List.getElem?_map,List.getElem?_map,hw];rfl
theorem Jx(R:RC h col m st)(h0:lY st.T st.j t≠0→Q (.cq [.int .i64 0,.bool false]) h)(h1:∀(i:Nat) (j:Jb),t=((i:Nat):Int)→st.j[i]?=some (some j)→Q (.cq [.int .i64 j.e,.bool true]) h):
  VD fs ms 75 [.ptr m 0,.int .i64 t] h Q:=by
 obtain⟨s,q,J,tv,gv,ws,gs,R,e1,e2,e4⟩:=R;refine ak (af:=VY) true rfl (Nat.le_of_ble_eq_true rfl) ?_;conv=>whnf
 refine oz R ?_;rw[←e1];conv=>whnf
 refine br (fun hc=>?_) (fun hc=>?_)<;>(try rw[hc])<;>(conv=>whnf)
 ·exact h0 (by simpa using hc)
 obtain⟨i,b,j,rfl,hi,hw,hj⟩:=kG R.tl e1 (by simpa using hc);obtain⟨p,C,o,v,JJ,_⟩:=R.mP i _ hw;repeat(first|(refine⟨_,aT R.dB.get rfl,?_⟩;conv=>whnf)|(refine⟨_,aJ (List.getElem?_eq_some_iff.1 hw).1,?_⟩;conv=>whnf)|(refine⟨_,aT R.kr.get (fN hw),?_⟩;conv=>whnf)|(refine⟨_,aT JJ.st rfl,?_⟩;conv=>whnf))
 exact h1 i j rfl hj
theorem Gq{now:Int}(R:RC h col m st)(h0:lY st.T st.j t≠0→Q (.int .i64 0) h)(h1:∀(i:Nat) (j:Jb),t=((i:Nat):Int)→st.j[i]?=some (some j)→∀h',Fr h h' []→Q (.int .i64 (ru j now)) h'):
  VD fs ms 76 [.ptr m 0,.int .i64 t,.int .i64 now] h Q:=by
 obtain⟨s,q,J,tv,gv,ws,gs,R,e1,e2,e4⟩:=R;refine ak (af:=VZ) true rfl (Nat.le_of_ble_eq_true rfl) ?_;conv=>whnf
 refine oz R ?_;rw[←e1];conv=>whnf
 refine br (fun hc=>?_) (fun hc=>?_)<;>(try rw[hc])<;>(conv=>whnf)
 ·exact h0 (by simpa using hc)
 obtain⟨i,b,j,rfl,hi,hw,hj⟩:=kG R.tl e1 (by simpa using hc);obtain⟨p,C,o,v,JJ,_⟩:=R.mP i _ hw;repeat(first|(refine⟨_,aT R.dB.get rfl,?_⟩;conv=>whnf)|(refine⟨_,aJ (List.getElem?_eq_some_iff.1 hw).1,?_⟩;conv=>whnf)|(refine⟨_,aT R.kr.get (fN hw),?_⟩;conv=>whnf))
 have:=(e4 i j hj).1;refine Gt JJ (by show j.l.length≤64;omega) fun h' fr=>?_;conv=>whnf
 exact h1 i j rfl hj h' fr
theorem JA(R:RC h col m st)(hL:st.L.length≤1000)(h0:lY st.T st.j t≠0→Q .aL h)(h1:∀(i:Nat) (j:Jb),t=((i:Nat):Int)→st.j[i]?=some (some j)→∀h' v,GR 1 h.next h' v (ints (bz st.L t))→Fr h h' []→Q v h'):
  VD fs ms 78 [.ptr m 0,.int .i64 t] h Q:=by
 obtain⟨s,q,J,tv,gv,ws,gs,R,e1,e2,e4⟩:=R;refine ak (af:=V0) true rfl (Nat.le_of_ble_eq_true rfl) ?_;conv=>whnf
 refine oz R ?_;rw[←e1];conv=>whnf
 refine br (fun hc=>?_) (fun hc=>?_)<;>(try rw[hc])<;>(conv=>whnf)
 ·exact h0 (by simpa using hc)
 obtain⟨i,b,j,rfl,hi,hw,hj⟩:=kG R.tl e1 (by simpa using hc);obtain⟨p,C,o,v,JJ,_⟩:=R.mP i _ hw;obtain⟨WH,v2,S,_⟩:=R.stk;repeat(first|(refine⟨_,aT R.dB.get rfl,?_⟩;conv=>whnf))
 refine nj S hL fun h' w gr fr=>?_;conv=>whnf
 exact h1 i j rfl hj h' w gr fr
theorem JF(R:RC h col m st)(h0:lY st.T st.j t≠0→∀h',Fr h h' []→Q (.cq [op s8,.bool false]) h')(h1:∀(i:Nat) (j:Jb),t=((i:Nat):Int)→st.j[i]?=some (some j)→∀h',Fr h h' []→Q (.cq [op (j.l.headD s8),.bool (!j.l.isEmpty)]) h'):
  VD fs ms 74 [.ptr m 0,.int .i64 t] h Q:=by
 have dy:Fr h (h.new (.cells (op s8).cells true 0)) []:=(Fr.refl h []).new;obtain⟨s,q,J,tv,gv,ws,gs,R,e1,e2,e4⟩:=R;refine ak (af:=VX) true rfl (Nat.le_of_ble_eq_true rfl) ?_;conv=>whnf
 refine oz (R.nil dy) ?_;rw[←e1];conv=>whnf
 refine br (fun hc=>?_) (fun hc=>?_)<;>(try rw[hc])<;>(conv=>whnf)
 ·refine bW (bq aj rfl (Nat.le_refl _) rfl) fun h1 e1=>?_;conv=>whnf
  refine dM (jV rfl (bR (vs:=(op s8).cells) (by rw[e1];exact ay) (Nat.le_refl _)) rfl) ?_;conv=>whnf
  exact h0 (by simpa using hc) _ (by rw[e1];exact dy.ki (Nat.le_refl _))
 obtain⟨i,b,j,rfl,hi,hw,hj⟩:=kG R.tl e1 (by simpa using hc);obtain⟨p,C,o,v,JJ,_⟩:=(R.nil dy).mP i _ hw;repeat(first|(refine⟨_,aT (R.nil dy).dB.get rfl,?_⟩;conv=>whnf)|(refine⟨_,aJ (List.getElem?_eq_some_iff.1 hw).1,?_⟩;conv=>whnf)|(refine⟨_,aT (R.nil dy).kr.get (fN hw),?_⟩;conv=>whnf))
 refine JT JJ fun h2 ey=>?_;conv=>whnf
 have g2:h2.get h.next=some (.cells (op s8).cells true 0):=(ey.keep _ (Nat.lt_succ_self _) (by simp)).trans aj;refine bW (bq g2 rfl (Nat.le_refl _) rfl) fun h3 e3=>?_;conv=>whnf
 refine dM (jV rfl (bR (vs:=(op (j.l.headD s8)).cells) (by rw[e3];exact ay) (Nat.le_refl _)) rfl) ?_;conv=>whnf
 exact h1 i j rfl hj _ (by rw[e3];exact(dy.trans ey).ki (Nat.le_refl _))
theorem Jy(R:RC h col m st)(hQ:Q (.int .i64 (yh st t)) h):VD fs ms 77 [.ptr m 0,.int .i64 t] h Q:=by
 obtain⟨s,q,J,tv,gv,ws,gs,R,e1,e2,e4⟩:=R;by_cases ha:cz st.T t=0
 ·obtain⟨i,rfl,hi⟩:=td ha;have su:i<gs.length:=by rw[R.gl];exact hi
  rw[yh,if_neg (by simpa using ha),Int.toNat_natCast,e2,List.getElem?_map,List.getElem?_eq_getElem su] at hQ;obtain⟨a1,a2,a3,a4⟩:=R.uL.all i gs[i] st.T[i] (List.getElem?_eq_getElem su) (List.getElem?_eq_getElem hi);rcases R.uL.row with hz|⟨G,op,es,hv,b1,b2,b3⟩
  ·rw[hz] at su;simp at su
  ·subst hv;have hg:(gs.map fun g=>AV.ptr g.1 0)[i*1]?=some (.ptr gs[i].1 0):=by rw[Nat.mul_one,List.getElem?_map,List.getElem?_eq_getElem su];rfl
   refine ak (af:=Tb) true rfl (Nat.le_of_ble_eq_true rfl) ?_;conv=>whnf
   repeat(first|(refine⟨_,aT R.dB.get rfl,?_⟩;conv=>whnf))
   rw[R.An.1.len];conv=>whnf
   refine nE (by simp;omega) (fun hc=>?_)
   (try rw[hc])
   conv=>whnf
   repeat(first|(refine⟨_,aT R.dB.get rfl,?_⟩;conv=>whnf)|(refine⟨_,aJ su,?_⟩;conv=>whnf)|(refine⟨_,aT b3 hg,?_⟩;conv=>whnf))
   refine JS a4 ?_;conv=>whnf
   exact hQ
 ·rw[yh,if_pos ha] at hQ;refine ak (af:=Tb) true rfl (Nat.le_of_ble_eq_true rfl) ?_;conv=>whnf
  refine br (fun hc=>?_) (fun hc=>?_)<;>(try rw[hc])<;>(conv=>whnf)
  ·exact hQ
  have hneg:=hc;repeat(first|(refine⟨_,aT R.dB.get rfl,?_⟩;conv=>whnf))
  rw[R.An.1.len];conv=>whnf
  refine br (fun hc=>?_) (fun hc=>?_)<;>(try rw[hc])<;>(conv=>whnf)
  ·exact hQ
  ·rw[cz,hneg,hc] at ha;exact absurd rfl ha
end
end Ir
end Go.Proofs.YtnlcabhfkpafmaaGreat
