/-
  Regions that draw their order mean what they mean in the text's order.
  Regions that draw their order mean what they mean in the text's order: the induction.
-/
import Derived.Test.YtepdklcpagielaaAdsDrawX
import Derived.Test.YtepdklcpagielaaAdsCode
set_option linter.unusedSimpArgs false
set_option linter.unusedVariables false
namespace Go.Proofs.Ytepdklcpagielaa
namespace Ads
section
variable {P:Program} {H0:Nat} {D:Dom} {N:Nat} {l:List bK} {bs:List Nat} {e:Env} {h:Heap} {tr:List aQ} {e':Env} {h':Heap}
 {tY:de} {w0:World} {a0:Act} {S:Nat→Bool} {c:Nat} {ρ:de} {a:Act} {w:World} {i:Nat} {x:bK} {m:aQ} {ro:Option Nat} {n:Nat} {rd:Bool}
theorem nB{α:Type}{f:Nat→α→Bool}:∀{l:List α} {k:Nat},vP f k l=true→∀{i:Nat} {x:α},l[i]?=some x→f (k+i) x=true
 |[],k,h,i,x,hx=>by simp at hx
 |y::l,k,h,i,x,hx=>by
  simp only[vP] at h;cases hf:f k y with
  |false=>rw[hf] at h;simp at h
  |true=>
   rw[hf] at h;cases i with
   |zero=>simp at hx;subst hx;exact hf
   |succ i=>
    simp at hx;have:=nB (k:=k+1) h hx
    rwa [show k+1+i=k+(i+1) by omega] at this
theorem zn(hp:x8 bs l=true)(i j:Nat)(x y:bK)(hij:i<j)(hx:l[i]?=some x)(hy:l[j]?=some y):qV bs j i∨(¬(cC x.op=true∧cC y.op=true)∧pU x y=true):=by
 have h1:=nB hp hy;have h2:=nB h1 hx;simp only[Nat.zero_add,Bool.or_eq_true,decide_eq_true_eq,Bool.and_eq_true,Bool.not_eq_true',Bool.and_eq_false_iff] at h2;rcases h2 with(h2|h2)|h2
 ·omega
 ·exact .inl h2
 ·refine .inr ⟨?_,h2.2⟩;rintro⟨g1,g2⟩;rcases h2.1 with h3|h3
  ·rw[g1] at h3;simp at h3
  ·rw[g2] at h3;simp at h3
theorem we{β:Type}(b:β→Bool)(g:β→Nat)(k:β→Nat)(j:Nat):∀(L:List β) (s:Nat),
  (L.foldl (fun s e=>cond (b e) (s|||2^k e|||g e) s) s).testBit j=(s.testBit j||L.any fun e=>b e&&(decide (k e=j)||(g e).testBit j))
 |[],s=>by simp
 |e::L,s=>by
  rw[List.foldl_cons,we b g k j L];cases hb:b e
  ·simp[hb]
  ·simp[hb,Nat.testBit_or,Nat.testBit_two_pow,Bool.or_assoc]
theorem jJ{os:List Oper}(hp:mV bs os=true){i:Nat}{o:Oper}(ho:os[i]?=some o):
  (∀j,qV bs i j→∃ed∈o.after.toList,Region.binds .any ed=true∧(ed.on=j∨qV bs ed.on j))∧(∀ed∈o.after.toList,Region.binds .any ed=true→ed.on<i)∧∀j,qV bs i j→j<i:=by
 have h1:=nB hp ho;simp only[Nat.zero_add,Bool.and_eq_true,decide_eq_true_eq] at h1;have h2:=Nat.eq_of_beq_eq_true h1.2;have hlt:∀j,qV bs i j→j<i:=by
  intro j hb;rcases Nat.lt_or_ge j i with hj|hj
  ·exact hj
  ·have:(bs.getD i 0).testBit j=false:=Nat.testBit_lt_two_pow (Nat.lt_of_lt_of_le h1.1 (Nat.pow_le_pow_right (by omega) hj));unfold qV at hb;rw[this] at hb;simp at hb
 have Vu:∀j,(bs.getD i 0).testBit j=o.after.toList.any fun ed=>Region.binds .any ed&&(decide (ed.on=j)||(bs.getD ed.on 0).testBit j):=by
  intro j;rw[h2,we (fun ed=>Region.binds .any ed) (fun ed=>bs.getD ed.on 0) (fun ed=>ed.on) j o.after.toList 0];simp
 refine⟨fun j hb=>?_,fun ed yR By=>?_,hlt⟩
 ·unfold qV at hb;rw[Vu,List.any_eq_true] at hb;obtain⟨ed,yR,hb⟩:=hb;simp only[Bool.and_eq_true,Bool.or_eq_true,decide_eq_true_eq] at hb;exact⟨ed,yR,hb.1,hb.2⟩
 ·refine hlt _ ?_;unfold qV;rw[Vu,List.any_eq_true];exact⟨ed,yR,by simp[By]⟩
theorem tP{code:Code}{win:List (List Nat)}(hs:dW code=false)(hc:aK P code=.bH l win):∃id os,code=.region id os true∧os.toList.map (bY P os)=l∧
  x8 (pW os) l=true∧mV (pW os) os.toList=true∧win=(List.range l.length).map (mM (pW os) l (cK l)):=by
 cases code<;>simp[aK,dW] at hc hs
 case region id os draw=>
  unfold iO at hc;simp only at hc;cases draw with
  |false=>simp at hc
  |true=>
   simp only[Bool.not_true,Bool.false_eq_true,if_false] at hc;split at hc
   ·rename_i mR;simp only[AC.bH.injEq] at hc;simp only[Bool.and_eq_true] at mR;obtain⟨rfl,rfl⟩:=hc;exact⟨id,os,rfl,rfl,mR.1,mR.2,rfl⟩
   ·simp at hc
 case cond c x y=>split at hc<;>simp at hc
 case rangeFunc f ps x y=>split at hc<;>simp at hc
def cnt(S:Nat→Bool):Nat→Nat
 |0=>0
 |n+1=>cnt S n+cond (S n) 1 0
theorem Fv(S:Nat→Bool):∀n,cnt S n≤n
 |0=>Nat.le_refl _
 |n+1=>by have:=Fv S n;simp only[cnt];cases S n<;>simp<;>omega
theorem DG(S:Nat→Bool):∀n,n≤cnt S n→∀j,j<n→S j=true
 |0,_,j,hj=>by omega
 |n+1,h,j,hj=>by
  simp only[cnt] at h;have:=Fv S n;cases hs:S n with
  |false=>rw[hs] at h;simp at h;omega
  |true=>
   rw[hs] at h;simp at h;by_cases hjn:j=n
   ·subst hjn;exact hs
   ·exact DG S n (by omega) j (by omega)
theorem vT(hs:S i=false):∀n,cnt (dY S i) n=cnt S n+cond (decide (i<n)) 1 0
 |0=>by simp[cnt]
 |n+1=>by
  simp only[cnt];rw[vT hs n];by_cases hin:n=i
  ·subst hin;simp[dY,hs]
  ·have:dY S i n=S n:=by simp[dY,hin]
   rw[this];by_cases hlt:i<n
   ·simp[hlt,show i<n+1 by omega];omega
   ·simp[hlt,show¬i<n+1 by omega]
theorem lu{p:Nat}:p∈cK l↔∃x,l[p]?=some x∧cC x.op=true:=by
 unfold cK;rw[List.mem_filter,List.mem_range];cases hx:l[p]? with
 |none=>simp[List.getElem?_eq_none_iff.1 hx]
 |some x=>simp[(List.getElem?_eq_some_iff.1 hx).1]
theorem xB{u:Nat→Heap}:∀{l:List bK} {win:List (List Nat)} {tr:List aQ},cW u l win tr→∀{i:Nat} {x:bK} {cs:List Nat} {m:aQ} {o:E9},l[i]?=some x→win[i]?=some cs→tr[i]?=some m→
  x.op=.r o→m.on=true→∀c∈cs,rI o m.vals (u c)=some m.v
 |[],win,tr,h,i,x,cs,m,o,hx,hw,hm,ho,dZ=>by simp at hx
 |y::l,[],tr,h,i,x,cs,m,o,hx,hw,hm,ho,dZ=>by simp at hw
 |y::l,ds::win,[],h,i,x,cs,m,o,hx,hw,hm,ho,dZ=>by simp at hm
 |y::l,ds::win,q::tr,h,i,x,cs,m,o,hx,hw,hm,ho,dZ=>by
  simp only[cW] at h;cases i with
  |zero=>
   simp at hx hw hm;subst hx hw hm;have:=h.1;rw[ho] at this;exact this dZ
  |succ i=>
   simp at hx hw hm;exact xB h.2 hx hw hm ho dZ
theorem EW(l:List bK):∀i:Nat,∃ct,ct∈0::(cK l).map (· +1)∧ct≤i∧∀p,p∈cK l→p<i→p<ct
 |0=>⟨0,by simp,Nat.le_refl _,fun p _ h=>by omega⟩
 |i+1=>by
  obtain⟨ct,h1,h2,h3⟩:=EW l i;by_cases hi:i∈cK l
  ·exact⟨i+1,List.mem_cons_of_mem _ (List.mem_map.2 ⟨i,hi,rfl⟩),Nat.le_refl _,fun p _ h=>h⟩
  ·refine⟨ct,h1,by omega,fun p hp hlt=>h3 p hp ?_⟩;rcases Nat.lt_or_ge p i with h|h
   ·exact h
   ·have:p=i:=by omega
    subst this;exact absurd hp hi
theorem J.read(R:Rg P H0 D N l bs e h tr e' h')(j:J P H0 D N l bs e h tr h' tY w0 a0 S c ρ a w)(u:Up bs l tr S i x m){o:E9}(ho:x.op=.r o)(dZ:m.on=true)
  (abQ:∀j,qV bs i j→j<i)(Wd:∀p,p∈cK l→qV bs p i→i<p)(hcan:c∈0::(cK l).map (· +1))
  (uv:cW (cY l tr h') l ((List.range l.length).map (mM bs l (cK l))) tr)(hr:rI o m.vals (aF tr h' i)=some m.v):rI o m.vals (cY l tr h' c)=some m.v:=by
 have hmay:∀c,c∈0::(cK l).map (· +1)→(∀p,p∈cK l→qV bs i p→p<c)→(∀p,p∈cK l→qV bs p i→¬p<c)→c∈ri bs l (cK l) i:=by
  intro c hc h1 h2;unfold ri;rw[List.mem_filter];refine⟨hc,?_⟩;unfold xz;rw[List.all_eq_true];intro p hp;simp only[Bool.and_eq_true,Bool.or_eq_true,Bool.not_eq_true',decide_eq_true_eq,decide_eq_false_iff_not];constructor
  ·cases hb:(bs.getD i 0).testBit p with
   |false=>exact .inl rfl
   |true=>exact .inr (h1 p hp hb)
  ·cases hb:(bs.getD p 0).testBit i with
   |false=>exact .inl rfl
   |true=>exact .inr (h2 p hp hb)
 have hc:c∈ri bs l (cK l) i:=by
  refine hmay c hcan (fun p hp hb=>?_) (fun p hp hb hlt=>?_)
  ·obtain⟨y,hy,Ws⟩:=lu.1 hp;exact(j.cut p y hy Ws).1 (u.pre p hb)
  ·obtain⟨y,hy,Ws⟩:=lu.1 hp;have:=j.closed p ((j.cut p y hy Ws).2 hlt) i hb;rw[u.hsi] at this;simp at this
 have hw:((List.range l.length).map (mM bs l (cK l)))[i]?=some (mM bs l (cK l) i):=by
  simp[u.lt]
 have LA:=xB uv u.hx hw u.hm ho dZ;by_cases hone:∃c0,ri bs l (cK l) i=[c0]
 ·obtain⟨c0,hc0⟩:=hone;obtain⟨ct,k1,k2,k3⟩:=EW l i;have hct:=hmay ct k1 (fun p hp hb=>k3 p hp (abQ p hb)) (fun p hp hb hlt=>by have:=Wd p hp hb;omega);rw[hc0] at hc hct;simp at hc hct;subst hct;have hsame:∀b,(cY l tr h' c).get b=(cY l tr h' i).get b:=by
   intro b;rw[hc];have:=R.wV (c:=ct) b (i-ct) (fun q y hq1 hq2 hy=>by
    cases Ws:cC y.op with
    |false=>rfl
    |true=>have:=k3 q (lu.2 ⟨y,hy,Ws⟩) (by omega);omega)
   rwa [show ct+(i-ct)=i by omega] at this
  refine HM (h:=aF tr h' i) ?_ hr;intro b y hy;have hlt:b<(aF tr h' i).next:=by
   rcases Nat.lt_or_ge b (aF tr h' i).next with hb|hb
   ·exact hb
   ·rw[R.wU.top i b hb] at hy;simp at hy
  rw[hsame b,R.H9 hlt];exact hy
 ·refine LA c ?_;unfold mM;rw[u.hx];simp only[ho,LS,cond_true];split
  ·rename_i q hq;exact absurd ⟨q,hq⟩ hone
  ·exact hc
theorem Inv.TD{ρ ρ':de}(j:Inv P H0 ρ D h w)(iC:∀b,D b→ρ' b=ρ b):Inv P H0 ρ' D h w:=
 ⟨j.lt,j.top,j.low,fun b x hb hx=>by rw[iC b hb];exact cA (j.cj b x hb hx) (fun _=>id) iC rfl,
  fun b b' hb hb' hne hw hx=>by rw[iC b hb,iC b' hb'];exact j.apart b b' hb hb' hne hw hx⟩
theorem J.start(R:Rg P H0 D N l bs e h tr e' h')(hi:Inv P H0 ρ D h w)(he:cg ρ D N e a):
  J P H0 D N l bs e h tr h' ρ w a (fun _=>false) 0 (fun b=>if b<h.next then ρ b else⟨w.heap.size,0,0⟩) a w:=by
 have iC:∀b,D b→(fun b=>if b<h.next then ρ b else⟨w.heap.size,0,0⟩:de) b=ρ b:=fun b hb=>if_pos (R.OK b hb);have hds:DS D l tr h' (fun _=>false)=D:=by
  funext b
  simp[DS]
 have hz:=R.ot.zero;have nL:h.next≤h'.next:=by have:=R.le_last 0;rwa [hz] at this
 have hg:∀b,b<h.next→(cY l tr h' 0).get b=h.get b:=by
  intro b hb;rw[R.H9 (by rw[hz];exact hb),hz]
 refine⟨fun j x _ _=>by simp,fun j hj=>by simp at hj,?_,?_,?_,?_,rfl⟩
 ·rw[hds];have hi':=hi.TD iC;refine⟨fun b hb=>Nat.lt_of_lt_of_le (R.OK b hb) nL,fun b hb=>R.Ru hb,hi.low,?_,?_⟩
  ·intro b x hb hx;rw[hg b (R.OK b hb)] at hx;exact hi'.cj b x hb hx
  ·intro b b' hb hb' hne hw hx;rw[Heap.kM (hg b (R.OK b hb))] at hw;rw[hg b' (R.OK b' hb')] at hx;exact hi'.apart b b' hb hb' hne hw hx
 ·refine⟨nL,iC,Nat.le_refl _,fun _ _ _=>rfl,fun b hb _=>hg b hb,?_,?_,rfl,rfl,rfl⟩
  ·intro b hb hn;rw[hg b hb] at hn;exact⟨hn,fun hw=>(Heap.kM (hg b hb)).symm.trans hw⟩
  ·intro b ox iH;rw[if_neg (by omega)];exact .inl (Nat.le_refl _)
 ·intro j x m bk hx hm hb _;exact R.TY hx hm hb (Nat.zero_le _)
 ·rw[hds];refine(he.mono iC (fun _=>id)).congr ?_;intro d;refine(o5 l tr (fun _=>false) 0 d e e rfl R.ot.length (fun j x _ _=>by simp)).trans ?_;cases l<;>cases tr<;>simp[dF]
theorem xA(tr:List aQ)(h':Heap)(lo:Nat):∀(k b:Nat),(aF tr h' 0).next≤b→b<(aF tr h' k).next→∃j,j<k∧(aF tr h' j).next≤b∧b<(aF tr h' (j+1)).next
 |0,b,h1,h2=>by omega
 |k+1,b,h1,h2=>by
  by_cases hb:b<(aF tr h' k).next
  ·obtain⟨j,g1,g2⟩:=xA tr h' lo k b h1 hb;exact⟨j,by omega,g2⟩
  ·exact⟨k,by omega,by omega,h2⟩
theorem J.finish(R:Rg P H0 D N l bs e h tr e' h')(j:J P H0 D N l bs e h tr h' tY w0 a0 S c ρ a w)(hall:∀k,k<l.length→S k=true):
  Inv P H0 ρ (grow D h.next h'.next) h' w∧Ext tY D h w0 ρ h' w∧cg ρ (grow D h.next h'.next) N e' a∧a.defers=a0.defers:=by
 have Cw:Cut l S l.length:=fun k x hx _=>by
  have:=(List.getElem?_eq_some_iff.1 hx).1;simp[hall k this,this]
 have hg:∀b,h'.get b=(cY l tr h' c).get b:=by
  intro b;rw[R.H7 j.cut Cw b];show h'.get b=(fJ (l.drop l.length) (tr.drop l.length) (aF tr h' l.length).m).get b;rw[R.ot.last (Nat.le_refl _),List.drop_length];simp[fJ,Heap.get]
 have hds:DS D l tr h' S=grow D h.next h'.next:=by
  funext b
  rw[eq_iff_iff];constructor
  ·rintro(hb|⟨q,_,_,h1,h2⟩)
   ·exact .inl hb
   ·exact .inr ⟨Nat.le_trans (R.wU.low q) h1,Nat.lt_of_lt_of_le h2 (R.le_last _)⟩
  ·rintro(hb|hb)
   ·exact .inl hb
   ·obtain⟨q,g1,g2,g3⟩:=xA tr h' 0 l.length b (by rw[R.ot.zero];exact hb.1) (by rw[R.ot.last (Nat.le_refl _)];exact hb.2);exact .inr ⟨q,hall q g1,g1,g2,g3⟩
 refine⟨?_,j.ext.congr rfl hg,?_,j.defers⟩
 ·rw[←hds];exact j.inv.congr rfl hg
 ·rw[←hds];refine j.env.congr ?_;intro d;rw[o5 l tr S l.length d e e rfl R.ot.length (fun k x hx _=>by
   have:=(List.getElem?_eq_some_iff.1 hx).1;rw[hall k this];simp[this]),vY R.ot]
end
end Ads
end Go.Proofs.Ytepdklcpagielaa
set_option linter.unusedSimpArgs false
set_option linter.unusedVariables false
namespace Go.Proofs.Ytepdklcpagielaa
namespace Ads
section
variable {P:Program} {H0:Nat} {D:Dom} {N:Nat} {l:List bK} {bs:List Nat} {e:Env} {h:Heap} {tr:List aQ} {e':Env} {h':Heap}
 {tY:de} {w0:World} {a0:Act} {c:Nat} {ρ:de} {a:Act} {w:World} {i:Nat} {x:bK} {m:aQ} {ro:Option Nat} {n:Nat} {rd:Bool}
theorem Bh(R:Rg P H0 D N l bs e h tr e' h'){os:Array Oper}(hos:∀i o,os[i]?=some o→i<l.length→l[i]?=some (bY P os o))(hsz:l.length≤os.size)(hil:i<l.length)(yR:mV bs os.toList=true)
  (uv:cW (cY l tr h') l ((List.range l.length).map (mM bs l (cK l))) tr){Q:Exit→Act→World→Prop}{S:Nat→Bool}
  (j:J P H0 D N l bs e h tr h' tY w0 a0 S c ρ a w)(hcan:c∈0::(cK l).map (· +1)){o:Oper}(ho:os[i]?=some o)(hsi:S i=false)
  (hpre:∀j,qV bs i j→S j=true){K:Act→World→Prop}
  (hk:∀c' ρ' a' w',c'∈0::(cK l).map (· +1)→J P H0 D N l bs e h tr h' tY w0 a0 (dY S i) c' ρ' a' w'→K a' w'):
  wpOpIn (FW ro) n P os Q i K a w:=by
 have hx:l[i]?=some (bY P os o):=hos i o ho hil;obtain⟨m,hm,D8,Bz,Q1⟩:=R.ot.at hx;have u:Up bs l tr S i (bY P os o) m:=⟨hx,hm,hsi,hpre⟩;have pq:=j.vals R u;have Rf:=j.wanted R u;have nJ:(bY P os o).dst=o.dst:=(dA rfl).1;have Hr:cond (cC (bY P os o).op) (i+1) c∈0::(cK l).map (· +1):=by
  cases he:cC (bY P os o).op with
  |false=>exact hcan
  |true=>exact List.mem_cons_of_mem _ (List.mem_map.2 ⟨i,lu.2 ⟨_,hx,he⟩,rfl⟩)
 unfold wpOpIn;rw[ho];simp only;rcases Q1 with⟨dZ,hw,hv,hst⟩|⟨dZ,hw,hop⟩
 ·have hg:(bY P os o).guard.isSome=true:=by
   cases hg:(bY P os o).guard with
   |none=>simp[cz,hg] at hw
   |some _=>rfl
  have jN:=eW (P:=P) (ops:=os) rfl (.inr hg) j.env;rw[if_neg (by rw[jN,Rf,hw];simp)];refine⟨fun _ _=>trivial,?_⟩;have:=hk _ _ _ _ Hr (j.quiet R u hst (by unfold eH;split<;>simp_all) (by rw[hv];simp[AV.undef,AV.bq,bE]));rw[hv,gM,nJ] at this;exact this
 ·have hnb:(bY P os o).op≠.bad:=by
   intro hb;rw[hb] at hop;exact hop
  have jN:=eW (P:=P) (ops:=os) rfl (.inl hnb) j.env;have hc:=((dA (P:=P) (ops:=os) (o:=o) rfl).2 (.inl hnb)).1;rw[if_pos (by rw[jN,Rf,hw])];have hv2:m.vals=(bY P os o).args.map (gD S l tr e).ev:=by rw[pq];exact Bz
  have Ay:cC (bY P os o).op=true→o.wpIn (FW ro) n P a w K Q:=by
   intro he;refine j.effect R u he hc nJ Bz hop ?_;intro ρ' w' hj;rw[he] at Hr;exact hk _ _ _ _ Hr hj
  have Lz:aF tr h' (i+1)=aF tr h' i→eH (bY P os o) m=none→cC (bY P os o).op=false→m.v.bq (DS D l tr h' S)→K (a.put o.dst (real ρ m.v)) w:=by
   intro hst hmb he hv;have:=hk _ _ _ _ Hr (j.quiet R u hst hmb hv);rw[nJ] at this;exact this
  generalize hq:bY P os o=q at*;obtain⟨qd,qg,qop,Rp⟩:=q;simp only at*;cases qop with
  |p p=>
   obtain⟨hp,hst⟩:=hop;rw[hv2] at hp;have:=zm (w:=w) j.env hc hp;refine iF hc ?_;rw[this.1];exact Lz hst (by simp[eH]) rfl this.2
  |r r=>
   obtain⟨hp,hst⟩:=hop;have yS:=jJ yR (i:=i) (o:=o) (by simpa using ho);have hr:=j.read R u (o:=r) rfl dZ yS.2.2 (fun p iD hb=>by
    obtain⟨y,hy,_⟩:=lu.1 iD;have hlt:p<os.toList.length:=by
     have:=(List.getElem?_eq_some_iff.1 hy).1;rw[Array.length_toList];omega
    exact(jJ yR (i:=p) (o:=os.toList[p]) (List.getElem?_eq_getElem hlt)).2.2 i hb) hcan uv hp
   rw[hv2] at hr;have:=EC j.env j.inv hc hr;refine iF hc ?_;rw[this.1];exact Lz hst (by simp[eH]) rfl this.2
  |a o'=>
   obtain⟨bk,f,hp,V7,hst⟩:=hop;have hmb:eH ⟨qd,qg,.a o',Rp⟩ m=some bk:=by simp[eH,dZ,hp]
   rw[hv2] at hp;obtain⟨obj,hrun,Cu,hf⟩:=Di (H0:=H0) (w:=w) j.env hc hp;have hid:DS D l tr h' (dY S i) (aF tr h' i).next:=by
    refine(lV u.lt _).2 (.inr ⟨Nat.le_refl _,?_⟩);rw[hst];simp
   have Ut:=j.alloc R u hmb (obj:=obj) (fun ρ' D' h1 h2=>Cu ρ' D' h1 h2 j.inv.low) (by rw[V7];exact hf _ _ hid);have:=hk _ _ _ _ hcan Ut;refine iF hc ?_;rw[hrun (aF tr h' i).next _ (cw _ _ _),←V7];show K (a.put o.dst _) _;rw[←nJ];exact this
  |bad=>exact hop.elim
  |e o'=>exact Ay rfl
  |call=>exact Ay rfl
  |invoke s=>exact Ay rfl
  |panic=>exact Ay rfl
theorem KL(R:Rg P H0 D N l bs e h tr e' h'){os:Array Oper}(hos:os.toList.map (bY P os)=l)(yR:mV bs os.toList=true)
  (uv:cW (cY l tr h') l ((List.range l.length).map (mM bs l (cK l))) tr){Q:Exit→Act→World→Prop}
  (hQ:∀ρ' a' w',Inv P H0 ρ' (grow D h.next h'.next) h' w'→Ext tY D h w0 ρ' h' w'→cg ρ' (grow D h.next h'.next) N e' a'→a'.defers=a0.defers→Q .normal a' w'):
  ∀(fuel:Nat) (listed:Array Bool) (c:Nat) (ρ:de) (a:Act) (w:World),listed.size=os.size→c∈0::(cK l).map (· +1)→
   J P H0 D N l bs e h tr h' tY w0 a0 (fun j=>listed.getD j false) c ρ a w→os.size≤fuel+cnt (fun j=>listed.getD j false) os.size→
   wpAnyIn (FW ro) n P .any os Q fuel listed a w:=by
 have hlen:l.length=os.size:=by rw[←hos];simp
 intro fuel;induction fuel with
 |zero=>
  intro listed c ρ a w hsz hcan hj Sr;have hall:∀k,k<os.size→listed.getD k false=true:=DG (fun j=>listed.getD j false) os.size (by omega);refine⟨?_,?_⟩
  ·rw[List.eq_nil_iff_forall_not_mem];intro i hi;obtain⟨h1,o,ho,_⟩:=mem_ready.1 hi;have hlt:=(Array.getElem?_eq_some_iff.1 ho).1;have:=hall i hlt;simp[Array.getD_eq_getD_getElem?,hsz,hlt] at h1 this;rw[h1] at this;simp at this
  ·obtain⟨g1,g2,g3,g4⟩:=hj.finish R (fun k hk=>hall k (by omega));exact hQ ρ a w g1 g2 g3 g4
 |succ fuel ih=>
  intro listed c ρ a w hsz hcan hj Sr;refine⟨fun hr=>?_,fun i hi=>?_⟩
  ·
   have hall:∀k,k<os.size→listed.getD k false=true:=by
    intro k;induction k using Nat.strongRecOn with
    |_ k SW=>
     intro hk;cases hs:listed.getD k false with
     |true=>rfl
     |false=>
      have hmem:k∈Region.ready .any os listed:=by
       rw[mem_ready];refine⟨by simp[Array.getD_eq_getD_getElem?,hsz,hk] at hs⊢;exact hs,os[k],by simp[hk],fun ed yS hb=>?_⟩;have hlt:=(jJ yR (i:=k) (o:=os[k]) (by simp[hk])).2.1 ed (by simpa using yS) hb;exact SW ed.on hlt (by omega)
      rw[hr] at hmem;simp at hmem
   obtain⟨g1,g2,g3,g4⟩:=hj.finish R (fun k hk=>hall k (by omega));exact hQ ρ a w g1 g2 g3 g4
  ·obtain⟨h1,o,ho,wo⟩:=mem_ready.1 hi;have hlt:=(Array.getElem?_eq_some_iff.1 ho).1;have hsi:listed.getD i false=false:=by
    simp[Array.getD_eq_getD_getElem?,hsz,hlt] at h1⊢;exact h1
   have hS:(fun j=>(listed.setIfInBounds i true).getD j false)=dY (fun j=>listed.getD j false) i:=by
    funext k
    by_cases hk:k=i
    ·subst hk;simp[dY,Array.getD_eq_getD_getElem?,hsz,hlt]
    ·simp only[dY,hk,decide_false,Bool.or_false];exact getD_set_ne false (fun e=>hk e.symm)
   refine Bh R (fun i o ho _=>by rw[←hos,List.getElem?_map];simp[ho]) (by omega) (by omega) yR uv hj hcan ho hsi ?_ ?_
   ·intro k hb;obtain⟨ed,yS,By,dZ⟩:=(jJ yR (i:=i) (o:=o) (by simpa using ho)).1 k hb;have:=wo ed (by simpa using yS) By;rcases dZ with rfl|dZ
    ·exact this
    ·exact hj.closed _ this k dZ
   ·intro c' ρ' a' w' lf hj';refine ih (listed.setIfInBounds i true) c' ρ' a' w' (by simp[hsz]) lf (by rw[hS];exact hj') ?_;rw[hS,vT (S:=fun j=>listed.getD j false) hsi];simp only[hlt,decide_true,cond_true];omega
end
section
variable {P:Program} {H0:Nat} {e e':Env} {h h':Heap} {rd:Bool}
theorem ML(Sz:P.follows .mixedOrders=true){l:List bK}{win:List (List Nat)}{tr:List aQ}(mD:OT P H0 l e h tr e' h')(Ea:nR l win tr h'):
  bW P H0 rd (.bH l win) e h .normal e' h':=by
 refine dy fun code hs hc N hN ro hro ρ D w a W0 n tl hi he hm hW=>?_;obtain⟨idr,os,rfl,hos,wD,yT,rfl⟩:=tP hs hc;have R:Rg P H0 D N l (pW os) e h tr e' h':=⟨mD,mD.wU hos hN hi he,hi.lt,zn wD,hN⟩;refine wpIn_region_any Sz ?_;have hi':Inv P H0 ρ D h {w with drawn:=w.drawn+1}:=by
  refine⟨hi.lt,hi.top,hi.low,fun b x hb hx=>?_,hi.apart⟩;exact cA (hi.cj b x hb hx) (fun _=>id) (fun _ _=>rfl) rfl
 have hS:(fun j=>(Array.replicate os.size false).getD j false)=fun _=>false:=by
  funext k
  simp[Array.getD_eq_getD_getElem?,Array.getElem?_replicate];split<;>simp
 have hst:=J.start R hi' he;rw[←hS] at hst;refine KL R hos yT Ea ?_ os.size _ 0 _ a _ (by simp) (by simp) hst (by omega);intro ρ' a' w' g1 g2 g3 g4;have QL:Ext ρ D h w ρ' h' w':=⟨g2.next,g2.bS,g2.size,g2.frame,g2.jq,g2.old,g2.fresh,g2.tape,g2.os,g2.output⟩;exact⟨ρ',rfl,g1,QL,g3,by rw[g4];exact hm.ext hi.lt QL,fun _=>g4⟩
theorem FD{bs:List Nat}{os:List Oper}(hp:mV bs os=true){i:Nat}{o:Oper}(ho:os[i]?=some o){j:Nat}{ed:Edge}(yR:ed∈o.after.toList)(hb:Region.binds .any ed=true)(hj:ed.on=j∨qV bs ed.on j):qV bs i j:=by
 have h1:=nB hp ho;simp only[Nat.zero_add,Bool.and_eq_true,decide_eq_true_eq] at h1;have h2:=Nat.eq_of_beq_eq_true h1.2;unfold qV at*;rw[h2,we (fun ed=>Region.binds .any ed) (fun ed=>bs.getD ed.on 0) (fun ed=>ed.on) j o.after.toList 0,Nat.zero_testBit,Bool.false_or,List.any_eq_true];refine⟨ed,yR,?_⟩;rcases hj with hj|hj
 ·simp[hb,hj]
 ·simp only[hb,hj,Bool.or_true,Bool.and_self]
theorem Iq{bs:List Nat}{os:List Oper}(hp:mV bs os=true):∀(i:Nat),i<os.length→∀{k j:Nat},qV bs i k→qV bs k j→qV bs i j:=by
 intro i;induction i using Nat.strongRecOn with
 |_ i ih=>
  intro hi k j hk hj;have ho:os[i]?=some os[i]:=List.getElem?_eq_getElem hi;obtain⟨ed,h1,h2,h3⟩:=(jJ hp ho).1 k hk;have hlt:=(jJ hp ho).2.1 ed h1 h2;refine FD hp ho h1 h2 (.inr ?_);rcases h3 with h3|h3
  ·rw[h3];exact hj
  ·exact ih ed.on hlt (by omega) h3 hj
theorem BH{y:bK}:∀{r:List bK},linked y r=true→∃(k:Nat) (z:bK),r[k]?=some z∧((cC y.op=true∧cC z.op=true)∨pU y z=false)
 |[],h=>by simp[linked] at h
 |z::r,h=>by
  simp only[linked,Bool.or_eq_true,Bool.and_eq_true,Bool.not_eq_true'] at h;rcases h with(h|h)|h
  ·exact⟨0,z,rfl,.inl h⟩
  ·exact⟨0,z,rfl,.inr h⟩
  ·obtain⟨k,z',h1,h2⟩:=BH h;exact⟨k+1,z',h1,h2⟩
theorem BF:∀{l:List bK},nO l=true→∀{j:Nat} {y:bK},l[j]?=some y→j+1<l.length→∃(k:Nat) (z:bK),j<k∧l[k]?=some z∧((cC y.op=true∧cC z.op=true)∨pU y z=false)
 |[],_,j,y,hy,hlt=>by simp at hlt
 |[_],_,j,y,hy,hlt=>by simp at hlt
 |y0::z0::r,h,j,y,hy,hlt=>by
  simp only[nO,Bool.and_eq_true] at h;cases j with
  |zero=>
   simp only[List.getElem?_cons_zero,Option.some.injEq] at hy;subst hy;obtain⟨k,z,h1,h2⟩:=BH h.1;exact⟨k+1,z,by omega,by rw[List.getElem?_cons_succ];exact h1,h2⟩
  |succ j=>
   rw[List.getElem?_cons_succ] at hy;obtain⟨k,z,h1,h2,h3⟩:=BF h.2 hy (by simp only[List.length_cons] at hlt⊢;omega);exact⟨k+1,z,by omega,by rw[List.getElem?_cons_succ];exact h2,h3⟩
theorem L9{bs:List Nat}{os:List Oper}{l:List bK}(wD:x8 bs l=true)(yR:mV bs os=true)(hlen:os.length=l.length)(hl:nO l=true){n:Nat}(hn:n+1=l.length):
  ∀(d j:Nat),j+d=n→j<n→qV bs n j:=by
 intro d;induction d using Nat.strongRecOn with
 |_ d ih=>
  intro j hd hj;have hy:l[j]?=some l[j]:=List.getElem?_eq_getElem (by omega);obtain⟨k,z,h1,h2,h3⟩:=BF hl hy (by omega);have hk:=(List.getElem?_eq_some_iff.1 h2).1;have hb:qV bs k j:=by
   rcases zn wD j k _ _ h1 hy h2 with hb|⟨ox,iH⟩
   ·exact hb
   ·rcases h3 with h3|h3
    ·exact absurd h3 ox
    ·rw[h3] at iH;simp at iH
  by_cases hkn:k=n
  ·rw[←hkn];exact hb
  ·have:=ih (n-k) (by omega) k (by omega) (by omega);exact Iq yR n (by omega) this hb
theorem E5{bs:List Nat}{l1:List bK}{i0:bK}(Ay:cC i0.op=true)(D1:∀j,j<l1.length→¬qV bs j l1.length)(hb:∀j,j<l1.length→qV bs l1.length j):
  ((List.range (l1++[i0]).length).map (mM bs (l1++[i0]) (cK (l1++[i0])))).take l1.length=(List.range l1.length).map (mM bs l1 (cK l1)):=by
 have VL:cK (l1++[i0])=cK l1++[l1.length]:=by
  unfold cK;rw[List.length_append,List.length_singleton,List.range_succ,List.filter_append]
  congr 1
  ·refine List.filter_congr fun k hk=>?_;rw[List.mem_range] at hk;rw[List.getElem?_append_left hk]
  ·simp[Ay]
 rw[←List.map_take,List.length_append,List.length_singleton,List.take_range,Nat.min_eq_left (by omega)];refine List.map_congr_left fun j hj=>?_;rw[List.mem_range] at hj;have VB:ri bs (l1++[i0]) (cK l1++[l1.length]) j=ri bs l1 (cK l1) j:=by
  unfold ri;rw[List.map_append,←List.cons_append,List.filter_append];have h1:List.filter (xz bs (cK l1++[l1.length]) j) (0::(cK l1).map (· +1))=List.filter (xz bs (cK l1) j) (0::(cK l1).map (· +1)):=by
   refine List.filter_congr fun c hc=>?_;have jQ:c≤l1.length:=by
    rcases List.mem_cons.1 hc with rfl|hc
    ·omega
    ·obtain⟨p,hp,rfl⟩:=List.mem_map.1 hc;obtain⟨y,hy,_⟩:=lu.1 hp;exact(List.getElem?_eq_some_iff.1 hy).1
   have hf:(bs.getD j 0).testBit l1.length=false:=by
    have:=D1 j hj;unfold qV at this;simpa using this
   unfold xz;rw[List.all_append];simp only[List.all_cons,List.all_nil,hf,Bool.not_false,Bool.true_or,Bool.true_and,Bool.and_true,show¬(l1.length<c) by omega,decide_false,Bool.or_true]
  have h2:List.filter (xz bs (cK l1++[l1.length]) j) (List.map (· +1) [l1.length])=[]:=by
   have hbj:(bs.getD l1.length 0).testBit j=true:=hb j hj;have:xz bs (cK l1++[l1.length]) j (l1.length+1)=false:=by
    unfold xz;rw[List.all_append];simp only[List.all_cons,List.all_nil,hbj,Bool.not_true,Bool.false_or,Bool.and_true,Nat.lt_succ_self,decide_true,Bool.not_true,Bool.and_false]
   simp[this]
  rw[h1,h2,List.append_nil]
 unfold mM;rw[VL,List.getElem?_append_left hj];cases l1[j]? with
 |none=>rfl
 |some x=>simp only[VB]
theorem IJ{D:Dom}{N n:Nat}{l1:List bK}{i0:bK}{bs:List Nat}{tr:List aQ}{tY:de}{w0:World}{a0:Act}{ro:Option Nat}{v:AV}{h2:Heap}(R:Rg P H0 D N l1 bs e h tr e' h'){os:Array Oper}(hos:os.toList.map (bY P os)=l1++[i0])(yR:mV bs os.toList=true)
  (uv:cW (cY l1 tr h') l1 ((List.range l1.length).map (mM bs l1 (cK l1))) tr)(hb:∀j,j<l1.length→qV bs l1.length j)(hw0:cz i0 e'=true)(hnb:i0.op≠.bad)(hop:oJ P H0 i0.op (i0.args.map e'.ev) h' v h2)
  {Q:Exit→Act→World→Prop}
  (hQ:∀ρ' a' w',Inv P H0 ρ' (grow D h.next h2.next) h2 w'→Ext tY D h w0 ρ' h2 w'→cg ρ' (grow D h.next h2.next) N e' a'→a'.defers=a0.defers→v.bq (grow D h.next h2.next)→Q (.panic [{v:=real ρ' v,recovered:=false}]) a' w'):
  ∀(fuel:Nat) (listed:Array Bool) (c:Nat) (ρ:de) (a:Act) (w:World),listed.size=os.size→c∈0::(cK l1).map (· +1)→listed.getD l1.length false=false→
   J P H0 D N l1 bs e h tr h' tY w0 a0 (fun j=>listed.getD j false) c ρ a w→os.size≤fuel+cnt (fun j=>listed.getD j false) os.size→
   wpAnyIn (FW ro) n P .any os Q fuel listed a w:=by
 have hlen:os.size=l1.length+1:=by have h:=congrArg List.length hos;simpa using h
 have hnot:∀(S:Nat→Bool),S l1.length=false→cnt S os.size≤l1.length:=by
  intro S hS;rw[hlen];simp only[cnt,hS,cond_false];exact Fv S _
 have Fc:∀i o,os[i]?=some o→(l1++[i0])[i]?=some (bY P os o):=fun i o ho=>by rw[←hos,List.getElem?_map,Array.getElem?_toList,ho];rfl
 intro fuel;induction fuel with
 |zero=>
  intro listed c ρ a w hsz hcan Lq hj Sr;have:=hnot (fun j=>listed.getD j false) Lq;omega
 |succ fuel ih=>
  intro listed c ρ a w hsz hcan Lq hj Sr;refine⟨fun hr=>?_,fun i hi=>?_⟩
  ·exfalso;have hall:∀k,k<os.size→listed.getD k false=true:=by
    intro k;induction k using Nat.strongRecOn with
    |_ k SW=>
     intro hk;cases hs:listed.getD k false with
     |true=>rfl
     |false=>
      have hmem:k∈Region.ready .any os listed:=by
       rw[mem_ready];refine⟨by simp[Array.getD_eq_getD_getElem?,hsz,hk] at hs⊢;exact hs,os[k],by simp[hk],fun ed yS hb=>?_⟩;have hlt:=(jJ yR (i:=k) (o:=os[k]) (by simp[hk])).2.1 ed (by simpa using yS) hb;exact SW ed.on hlt (by omega)
      rw[hr] at hmem;simp at hmem
   rw[hall l1.length (by omega)] at Lq;simp at Lq
  ·obtain⟨h1,o,ho,wo⟩:=mem_ready.1 hi;have hlt:=(Array.getElem?_eq_some_iff.1 ho).1;have hsi:listed.getD i false=false:=by
    simp[Array.getD_eq_getD_getElem?,hsz,hlt] at h1⊢;exact h1
   have hS:(fun j=>(listed.setIfInBounds i true).getD j false)=dY (fun j=>listed.getD j false) i:=by
    funext k
    by_cases hk:k=i
    ·subst hk;simp[dY,Array.getD_eq_getD_getElem?,hsz,hlt]
    ·simp only[dY,hk,decide_false,Bool.or_false];exact getD_set_ne false (fun e=>hk e.symm)
   by_cases hil:i<l1.length
   ·refine Bh R (fun i o ho hi=>by have hh:=Fc i o ho;rw[List.getElem?_append_left hi] at hh;exact hh) (by omega) hil yR uv hj hcan ho hsi ?_ ?_
    ·intro k hb;obtain⟨ed,yS,By,dZ⟩:=(jJ yR (i:=i) (o:=o) (by simpa using ho)).1 k hb;have:=wo ed (by simpa using yS) By;rcases dZ with rfl|dZ
     ·exact this
     ·exact hj.closed _ this k dZ
    ·intro c' ρ' a' w' lf hj';refine ih (listed.setIfInBounds i true) c' ρ' a' w' (by simp[hsz]) lf (by rw[getD_set_ne false (by omega)];exact Lq) (by rw[hS];exact hj') ?_;rw[hS,vT (S:=fun j=>listed.getD j false) hsi];simp only[hlt,decide_true,cond_true];omega
   ·have hin:i=l1.length:=by omega
    subst hin;have hall:∀k,k<l1.length→listed.getD k false=true:=by
     intro k hk;obtain⟨ed,yS,By,dZ⟩:=(jJ yR (i:=l1.length) (o:=o) (by simpa using ho)).1 k (hb k hk);have:=wo ed (by simpa using yS) By;rcases dZ with rfl|dZ
     ·exact this
     ·exact hj.closed _ this k dZ
    obtain⟨g1,g2,g3,g4⟩:=hj.finish R hall;have Vz:bY P os o=i0:=by
     have:=Fc _ o ho;rw[List.getElem?_append_right (Nat.le_refl _)] at this;simpa using this.symm
    have jN:=eW Vz (.inl hnb) g3;have hc:=((dA Vz).2 (.inl hnb)).1;unfold wpOpIn;rw[ho];simp only;rw[if_pos (by rw[jN,hw0])];refine hop o i0.args hc ρ _ w a N e' ro n g1 g3 rfl _ _ ?_;intro ρ' w' k1 k2 k3;have J2:=g2.next;have hn2:=k2.next;have k4:=g3.mono (ρ':=ρ') (D':=grow (grow D h.next h'.next) h'.next h2.next) k2.bS (fun _=>.inl);rw[eD D J2 hn2] at k1 k3 k4;exact hQ ρ' a w' k1 (Ext.trans R.OK g2 k2) k4 g4 k3
theorem JC(Sz:P.follows .mixedOrders=true){l1:List bK}{i0:bK}{win:List (List Nat)}{tr:List aQ}{v:AV}{h2:Heap}(mD:OT P H0 l1 e h tr e' h')(Ea:nR l1 (win.take l1.length) tr h')(tS:nO (l1++[i0])=true)(Ay:cC i0.op=true)
  (hw0:cz i0 e'=true)(hop:i0.op≠.bad∧oJ P H0 i0.op (i0.args.map e'.ev) h' v h2):bW P H0 rd (.bH (l1++[i0]) win) e h (.panic v) e' h2:=by
 refine dy fun code hs hc N hN ro hro ρ D w a W0 n tl hi he hm hW=>?_;obtain⟨idr,os,rfl,hos,wD,yT,rfl⟩:=tP hs hc;have Uq:dQ N (l1++[i0])=true:=hN;rw[s9,Bool.and_eq_true] at Uq;have hlen:os.size=l1.length+1:=by have:=congrArg List.length hos;simpa using this
 have hb:=fun j hj=>L9 wD yT (by simpa using hlen) tS (n:=l1.length) (by simp) (l1.length-j) j (by omega) hj;have D1:∀j,j<l1.length→¬qV (pW os) j l1.length:=by
  intro j hj hbj;have:=(jJ yT (i:=j) (o:=os.toList[j]'(by simp;omega)) (List.getElem?_eq_getElem _)).2.2 _ hbj;omega
 rw[E5 Ay D1 hb] at Ea;have hpre:(os.toList.take l1.length).map (bY P os)=l1:=by rw[List.map_take,hos];simp
 have R:Rg P H0 D N l1 (pW os) e h tr e' h':=⟨mD,mD.wU hpre Uq.1 hi he,hi.lt,fun i j x y hij hx hy=>zn wD i j x y hij (by rw[List.getElem?_append_left (List.getElem?_eq_some_iff.1 hx).1];exact hx) (by rw[List.getElem?_append_left (List.getElem?_eq_some_iff.1 hy).1];exact hy),Uq.1⟩;refine wpIn_region_any Sz ?_;have hi':Inv P H0 ρ D h {w with drawn:=w.drawn+1}:=by
  refine⟨hi.lt,hi.top,hi.low,fun b x hb hx=>?_,hi.apart⟩;exact cA (hi.cj b x hb hx) (fun _=>id) (fun _ _=>rfl) rfl
 have hS:(fun j=>(Array.replicate os.size false).getD j false)=fun _=>false:=by
  funext k
  simp[Array.getD_eq_getD_getElem?,Array.getElem?_replicate];split<;>simp
 have hst:=J.start R hi' he;rw[←hS] at hst;refine IJ R hos yT Ea hb hw0 hop.1 hop.2 ?_ os.size _ 0 _ a _ (by simp) (by simp) (congrFun hS _) hst (by omega);intro ρ' a' w' g1 g2 g3 g4 g5;have QL:Ext ρ D h w ρ' h2 w':=⟨g2.next,g2.bS,g2.size,g2.frame,g2.jq,g2.old,g2.fresh,g2.tape,g2.os,g2.output⟩;exact⟨ρ',⟨rfl,g5⟩,g1,QL,g3,by rw[g4];exact hm.ext hi.lt QL,fun _=>g4⟩
end
end Ads
end Go.Proofs.Ytepdklcpagielaa
