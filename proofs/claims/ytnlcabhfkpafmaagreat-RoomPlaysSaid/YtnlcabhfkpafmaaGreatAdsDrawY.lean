/-
  Regions that draw their order mean what they mean in the text's order.
  Regions that draw their order mean what they mean in the text's order: the induction.
-/
import Derived.Test.YtnlcabhfkpafmaaGreatAdsDrawX
import Derived.Test.YtnlcabhfkpafmaaGreatAdsCode
set_option linter.unusedSimpArgs false
set_option linter.unusedVariables false
namespace Go.Proofs.YtnlcabhfkpafmaaGreat
namespace Ads
section
variable {P:Program} {H0:Nat} {D:Dom} {N:Nat} {l:List bE} {bs:List Nat} {e:Env} {h:Heap} {tr:List aN} {e':Env} {h':Heap}
 {qQ:cF} {w0:World} {a0:Act} {S:Nat→Bool} {c:Nat} {ρ:cF} {a:Act} {w:World} {i:Nat} {x:bE} {m:aN} {ro:Option Nat} {n:Nat} {rd:Bool}
theorem lG{α:Type}{f:Nat→α→Bool}:∀{l:List α} {k:Nat},tc f k l=true→∀{i:Nat} {x:α},l[i]?=some x→f (k+i) x=true
 |[],k,h,i,x,hx=>by simp at hx
 |y::l,k,h,i,x,hx=>by
  simp only[tc] at h;cases hf:f k y with
  |false=>rw[hf] at h;simp at h
  |true=>
   rw[hf] at h;cases i with
   |zero=>simp at hx;subst hx;exact hf
   |succ i=>
    simp at hx;have:=lG (k:=k+1) h hx
    rwa [show k+1+i=k+(i+1) by omega] at this
theorem wG(hp:vh bs l=true)(i j:Nat)(x y:bE)(hij:i<j)(hx:l[i]?=some x)(hy:l[j]?=some y):oG bs j i∨(¬(bU x.op=true∧bU y.op=true)∧nC x y=true):=by
 have h1:=lG hp hy;have h2:=lG h1 hx;simp only[Nat.zero_add,Bool.or_eq_true,decide_eq_true_eq,Bool.and_eq_true,Bool.not_eq_true',Bool.and_eq_false_iff] at h2;rcases h2 with(h2|h2)|h2
 ·omega
 ·exact .inl h2
 ·refine .inr ⟨?_,h2.2⟩;rintro⟨g1,g2⟩;rcases h2.1 with h3|h3
  ·rw[g1] at h3;simp at h3
  ·rw[g2] at h3;simp at h3
theorem tE{β:Type}(b:β→Bool)(g:β→Nat)(k:β→Nat)(j:Nat):∀(L:List β) (s:Nat),
  (L.foldl (fun s e=>cond (b e) (s|||2^k e|||g e) s) s).testBit j=(s.testBit j||L.any fun e=>b e&&(decide (k e=j)||(g e).testBit j))
 |[],s=>by simp
 |e::L,s=>by
  rw[List.foldl_cons,tE b g k j L];cases hb:b e
  ·simp[hb]
  ·simp[hb,Nat.testBit_or,Nat.testBit_two_pow,Bool.or_assoc]
theorem iK{os:List Oper}(hp:kU bs os=true){i:Nat}{o:Oper}(ho:os[i]?=some o):
  (∀j,oG bs i j→∃ed∈o.after.toList,Region.binds .any ed=true∧(ed.on=j∨oG bs ed.on j))∧(∀ed∈o.after.toList,Region.binds .any ed=true→ed.on<i)∧∀j,oG bs i j→j<i:=by
 have h1:=lG hp ho;simp only[Nat.zero_add,Bool.and_eq_true,decide_eq_true_eq] at h1;have h2:=Nat.eq_of_beq_eq_true h1.2;have hlt:∀j,oG bs i j→j<i:=by
  intro j hb;rcases Nat.lt_or_ge j i with hj|hj
  ·exact hj
  ·have:(bs.getD i 0).testBit j=false:=Nat.testBit_lt_two_pow (Nat.lt_of_lt_of_le h1.1 (Nat.pow_le_pow_right (by omega) hj));unfold oG at hb;rw[this] at hb;simp at hb
 have TK:∀j,(bs.getD i 0).testBit j=o.after.toList.any fun ed=>Region.binds .any ed&&(decide (ed.on=j)||(bs.getD ed.on 0).testBit j):=by
  intro j;rw[h2,tE (fun ed=>Region.binds .any ed) (fun ed=>bs.getD ed.on 0) (fun ed=>ed.on) j o.after.toList 0];simp
 refine⟨fun j hb=>?_,fun ed vU yz=>?_,hlt⟩
 ·unfold oG at hb;rw[TK,List.any_eq_true] at hb;obtain⟨ed,vU,hb⟩:=hb;simp only[Bool.and_eq_true,Bool.or_eq_true,decide_eq_true_eq] at hb;exact⟨ed,vU,hb.1,hb.2⟩
 ·refine hlt _ ?_;unfold oG;rw[TK,List.any_eq_true];exact⟨ed,vU,by simp[yz]⟩
theorem qD{code:Code}{win:List (List Nat)}(hs:cW code=false)(hc:aE P code=.cn l win):∃id os,code=.region id os true∧os.toList.map (bG P os)=l∧
  vh (nD os) l=true∧kU (nD os) os.toList=true∧win=(List.range l.length).map (kJ (nD os) l (b9 l)):=by
 cases code<;>simp[aE,cW] at hc hs
 case region id os draw=>
  unfold gK at hc;simp only at hc;cases draw with
  |false=>simp at hc
  |true=>
   simp only[Bool.not_true,Bool.false_eq_true,if_false] at hc;split at hc
   ·rename_i oy;simp only[AC.cn.injEq] at hc;simp only[Bool.and_eq_true] at oy;obtain⟨rfl,rfl⟩:=hc;exact⟨id,os,rfl,rfl,oy.1,oy.2,rfl⟩
   ·simp at hc
 case cond c x y=>split at hc<;>simp at hc
 case rangeFunc f ps x y=>split at hc<;>simp at hc
def cnt(S:Nat→Bool):Nat→Nat
 |0=>0
 |n+1=>cnt S n+cond (S n) 1 0
theorem Cy(S:Nat→Bool):∀n,cnt S n≤n
 |0=>Nat.le_refl _
 |n+1=>by have:=Cy S n;simp only[cnt];cases S n<;>simp<;>omega
theorem AY(S:Nat→Bool):∀n,n≤cnt S n→∀j,j<n→S j=true
 |0,_,j,hj=>by omega
 |n+1,h,j,hj=>by
  simp only[cnt] at h;have:=Cy S n;cases hs:S n with
  |false=>rw[hs] at h;simp at h;omega
  |true=>
   rw[hs] at h;simp at h;by_cases hjn:j=n
   ·subst hjn;exact hs
   ·exact AY S n (by omega) j (by omega)
theorem tj(hs:S i=false):∀n,cnt (cZ S i) n=cnt S n+cond (decide (i<n)) 1 0
 |0=>by simp[cnt]
 |n+1=>by
  simp only[cnt];rw[tj hs n];by_cases hin:n=i
  ·subst hin;simp[cZ,hs]
  ·have:cZ S i n=S n:=by simp[cZ,hin]
   rw[this];by_cases hlt:i<n
   ·simp[hlt,show i<n+1 by omega];omega
   ·simp[hlt,show¬i<n+1 by omega]
theorem jO{p:Nat}:p∈b9 l↔∃x,l[p]?=some x∧bU x.op=true:=by
 unfold b9;rw[List.mem_filter,List.mem_range];cases hx:l[p]? with
 |none=>simp[List.getElem?_eq_none_iff.1 hx]
 |some x=>simp[(List.getElem?_eq_some_iff.1 hx).1]
theorem uA{u:Nat→Heap}:∀{l:List bE} {win:List (List Nat)} {tr:List aN},ew u l win tr→∀{i:Nat} {x:bE} {cs:List Nat} {m:aN} {o:DL},l[i]?=some x→win[i]?=some cs→tr[i]?=some m→
  x.op=.r o→m.on=true→∀c∈cs,rI o m.vals (u c)=some m.v
 |[],win,tr,h,i,x,cs,m,o,hx,hw,hm,ho,eM=>by simp at hx
 |y::l,[],tr,h,i,x,cs,m,o,hx,hw,hm,ho,eM=>by simp at hw
 |y::l,ds::win,[],h,i,x,cs,m,o,hx,hw,hm,ho,eM=>by simp at hm
 |y::l,ds::win,q::tr,h,i,x,cs,m,o,hx,hw,hm,ho,eM=>by
  simp only[ew] at h;cases i with
  |zero=>
   simp at hx hw hm;subst hx hw hm;have:=h.1;rw[ho] at this;exact this eM
  |succ i=>
   simp at hx hw hm;exact uA h.2 hx hw hm ho eM
theorem B9(l:List bE):∀i:Nat,∃ct,ct∈0::(b9 l).map (· +1)∧ct≤i∧∀p,p∈b9 l→p<i→p<ct
 |0=>⟨0,by simp,Nat.le_refl _,fun p _ h=>by omega⟩
 |i+1=>by
  obtain⟨ct,h1,h2,h3⟩:=B9 l i;by_cases hi:i∈b9 l
  ·exact⟨i+1,List.mem_cons_of_mem _ (List.mem_map.2 ⟨i,hi,rfl⟩),Nat.le_refl _,fun p _ h=>h⟩
  ·refine⟨ct,h1,by omega,fun p hp hlt=>h3 p hp ?_⟩;rcases Nat.lt_or_ge p i with h|h
   ·exact h
   ·have:p=i:=by omega
    subst this;exact absurd hp hi
theorem J.read(R:Rg P H0 D N l bs e h tr e' h')(j:J P H0 D N l bs e h tr h' qQ w0 a0 S c ρ a w)(u:Up bs l tr S i x m){o:DL}(ho:x.op=.r o)(eM:m.on=true)
  (Zj:∀j,oG bs i j→j<i)(Ug:∀p,p∈b9 l→oG bs p i→i<p)(hcan:c∈0::(b9 l).map (· +1))
  (rm:ew (cJ l tr h') l ((List.range l.length).map (kJ bs l (b9 l))) tr)(hr:rI o m.vals (aB tr h' i)=some m.v):rI o m.vals (cJ l tr h' c)=some m.v:=by
 have hmay:∀c,c∈0::(b9 l).map (· +1)→(∀p,p∈b9 l→oG bs i p→p<c)→(∀p,p∈b9 l→oG bs p i→¬p<c)→c∈oP bs l (b9 l) i:=by
  intro c hc h1 h2;unfold oP;rw[List.mem_filter];refine⟨hc,?_⟩;unfold uw;rw[List.all_eq_true];intro p hp;simp only[Bool.and_eq_true,Bool.or_eq_true,Bool.not_eq_true',decide_eq_true_eq,decide_eq_false_iff_not];constructor
  ·cases hb:(bs.getD i 0).testBit p with
   |false=>exact .inl rfl
   |true=>exact .inr (h1 p hp hb)
  ·cases hb:(bs.getD p 0).testBit i with
   |false=>exact .inl rfl
   |true=>exact .inr (h2 p hp hb)
 have hc:c∈oP bs l (b9 l) i:=by
  refine hmay c hcan (fun p hp hb=>?_) (fun p hp hb hlt=>?_)
  ·obtain⟨y,hy,Ut⟩:=jO.1 hp;exact(j.cut p y hy Ut).1 (u.pre p hb)
  ·obtain⟨y,hy,Ut⟩:=jO.1 hp;have:=j.closed p ((j.cut p y hy Ut).2 hlt) i hb;rw[u.hsi] at this;simp at this
 have hw:((List.range l.length).map (kJ bs l (b9 l)))[i]?=some (kJ bs l (b9 l) i):=by
  simp[u.lt]
 have IJ:=uA rm u.hx hw u.hm ho eM;by_cases hone:∃c0,oP bs l (b9 l) i=[c0]
 ·obtain⟨c0,hc0⟩:=hone;obtain⟨ct,k1,k2,k3⟩:=B9 l i;have Pq:=hmay ct k1 (fun p hp hb=>k3 p hp (Zj p hb)) (fun p hp hb hlt=>by have:=Ug p hp hb;omega);rw[hc0] at hc Pq;simp at hc Pq;subst Pq;have hsame:∀b,(cJ l tr h' c).get b=(cJ l tr h' i).get b:=by
   intro b;rw[hc];have:=R.tZ (c:=ct) b (i-ct) (fun q y hq1 hq2 hy=>by
    cases Ut:bU y.op with
    |false=>rfl
    |true=>have:=k3 q (jO.2 ⟨y,hy,Ut⟩) (by omega);omega)
   rwa [show ct+(i-ct)=i by omega] at this
  refine EI (h:=aB tr h' i) ?_ hr;intro b y hy;have hlt:b<(aB tr h' i).next:=by
   rcases Nat.lt_or_ge b (aB tr h' i).next with hb|hb
   ·exact hb
   ·rw[R.tY.top i b hb] at hy;simp at hy
  rw[hsame b,R.E5 hlt];exact hy
 ·refine IJ c ?_;unfold kJ;rw[u.hx];simp only[ho,IY,cond_true];split
  ·rename_i q hq;exact absurd ⟨q,hq⟩ hone
  ·exact hc
theorem Inv.Se{ρ ρ':cF}(j:Inv P H0 ρ D h w)(gL:∀b,D b→ρ' b=ρ b):Inv P H0 ρ' D h w:=
 ⟨j.lt,j.top,j.low,fun b x hb hx=>by rw[gL b hb];exact bQ (j.bK b x hb hx) (fun _=>id) gL rfl,
  fun b b' hb hb' hne hw hx=>by rw[gL b hb,gL b' hb'];exact j.apart b b' hb hb' hne hw hx⟩
theorem J.start(R:Rg P H0 D N l bs e h tr e' h')(hi:Inv P H0 ρ D h w)(he:bJ ρ D N e a):
  J P H0 D N l bs e h tr h' ρ w a (fun _=>false) 0 (fun b=>if b<h.next then ρ b else⟨w.heap.size,0,0⟩) a w:=by
 have gL:∀b,D b→(fun b=>if b<h.next then ρ b else⟨w.heap.size,0,0⟩:cF) b=ρ b:=fun b hb=>if_pos (R.MY b hb);have hds:DS D l tr h' (fun _=>false)=D:=by
  funext b
  simp[DS]
 have hz:=R.ot.zero;have ri:h.next≤h'.next:=by have:=R.le_last 0;rwa [hz] at this
 have hg:∀b,b<h.next→(cJ l tr h' 0).get b=h.get b:=by
  intro b hb;rw[R.E5 (by rw[hz];exact hb),hz]
 refine⟨fun j x _ _=>by simp,fun j hj=>by simp at hj,?_,?_,?_,?_,rfl⟩
 ·rw[hds];have hi':=hi.Se gL;refine⟨fun b hb=>Nat.lt_of_lt_of_le (R.MY b hb) ri,fun b hb=>R.PF hb,hi.low,?_,?_⟩
  ·intro b x hb hx;rw[hg b (R.MY b hb)] at hx;exact hi'.bK b x hb hx
  ·intro b b' hb hb' hne hw hx;rw[Heap.jC (hg b (R.MY b hb))] at hw;rw[hg b' (R.MY b' hb')] at hx;exact hi'.apart b b' hb hb' hne hw hx
 ·refine⟨ri,gL,Nat.le_refl _,fun _ _ _=>rfl,fun b hb _=>hg b hb,?_,?_,rfl,rfl,rfl⟩
  ·intro b hb hn;rw[hg b hb] at hn;exact⟨hn,fun hw=>(Heap.jC (hg b hb)).symm.trans hw⟩
  ·intro b q8 kO;rw[if_neg (by omega)];exact .inl (Nat.le_refl _)
 ·intro j x m bk hx hm hb _;exact R.Sq hx hm hb (Nat.zero_le _)
 ·rw[hds];refine(he.mono gL (fun _=>id)).congr ?_;intro d;refine(mZ l tr (fun _=>false) 0 d e e rfl R.ot.length (fun j x _ _=>by simp)).trans ?_;cases l<;>cases tr<;>simp[cM]
theorem uz(tr:List aN)(h':Heap)(lo:Nat):∀(k b:Nat),(aB tr h' 0).next≤b→b<(aB tr h' k).next→∃j,j<k∧(aB tr h' j).next≤b∧b<(aB tr h' (j+1)).next
 |0,b,h1,h2=>by omega
 |k+1,b,h1,h2=>by
  by_cases hb:b<(aB tr h' k).next
  ·obtain⟨j,g1,g2⟩:=uz tr h' lo k b h1 hb;exact⟨j,by omega,g2⟩
  ·exact⟨k,by omega,by omega,h2⟩
theorem J.finish(R:Rg P H0 D N l bs e h tr e' h')(j:J P H0 D N l bs e h tr h' qQ w0 a0 S c ρ a w)(hall:∀k,k<l.length→S k=true):
  Inv P H0 ρ (grow D h.next h'.next) h' w∧Ext qQ D h w0 ρ h' w∧bJ ρ (grow D h.next h'.next) N e' a∧a.defers=a0.defers:=by
 have Ij:Cut l S l.length:=fun k x hx _=>by
  have:=(List.getElem?_eq_some_iff.1 hx).1;simp[hall k this,this]
 have hg:∀b,h'.get b=(cJ l tr h' c).get b:=by
  intro b;rw[R.E4 j.cut Ij b];show h'.get b=(iu (l.drop l.length) (tr.drop l.length) (aB tr h' l.length).m).get b;rw[R.ot.last (Nat.le_refl _),List.drop_length];simp[iu,Heap.get]
 have hds:DS D l tr h' S=grow D h.next h'.next:=by
  funext b
  rw[eq_iff_iff];constructor
  ·rintro(hb|⟨q,_,_,h1,h2⟩)
   ·exact .inl hb
   ·exact .inr ⟨Nat.le_trans (R.tY.low q) h1,Nat.lt_of_lt_of_le h2 (R.le_last _)⟩
  ·rintro(hb|hb)
   ·exact .inl hb
   ·obtain⟨q,g1,g2,g3⟩:=uz tr h' 0 l.length b (by rw[R.ot.zero];exact hb.1) (by rw[R.ot.last (Nat.le_refl _)];exact hb.2);exact .inr ⟨q,hall q g1,g1,g2,g3⟩
 refine⟨?_,j.ext.congr rfl hg,?_,j.defers⟩
 ·rw[←hds];exact j.inv.congr rfl hg
 ·rw[←hds];refine j.env.congr ?_;intro d;rw[mZ l tr S l.length d e e rfl R.ot.length (fun k x hx _=>by
   have:=(List.getElem?_eq_some_iff.1 hx).1;rw[hall k this];simp[this]),tw R.ot]
end
end Ads
end Go.Proofs.YtnlcabhfkpafmaaGreat
set_option linter.unusedSimpArgs false
set_option linter.unusedVariables false
namespace Go.Proofs.YtnlcabhfkpafmaaGreat
namespace Ads
section
variable {P:Program} {H0:Nat} {D:Dom} {N:Nat} {l:List bE} {bs:List Nat} {e:Env} {h:Heap} {tr:List aN} {e':Env} {h':Heap}
 {qQ:cF} {w0:World} {a0:Act} {c:Nat} {ρ:cF} {a:Act} {w:World} {i:Nat} {x:bE} {m:aN} {ro:Option Nat} {n:Nat} {rd:Bool}
theorem ye(R:Rg P H0 D N l bs e h tr e' h'){os:Array Oper}(hos:∀i o,os[i]?=some o→i<l.length→l[i]?=some (bG P os o))(hsz:l.length≤os.size)(KH:i<l.length)(vU:kU bs os.toList=true)
  (rm:ew (cJ l tr h') l ((List.range l.length).map (kJ bs l (b9 l))) tr){Q:Exit→Act→World→Prop}{S:Nat→Bool}
  (j:J P H0 D N l bs e h tr h' qQ w0 a0 S c ρ a w)(hcan:c∈0::(b9 l).map (· +1)){o:Oper}(ho:os[i]?=some o)(hsi:S i=false)
  (hpre:∀j,oG bs i j→S j=true){K:Act→World→Prop}
  (hk:∀c' ρ' a' w',c'∈0::(b9 l).map (· +1)→J P H0 D N l bs e h tr h' qQ w0 a0 (cZ S i) c' ρ' a' w'→K a' w'):
  wpOpIn (FW ro) n P os Q i K a w:=by
 have hx:l[i]?=some (bG P os o):=hos i o ho KH;obtain⟨m,hm,Bn,yB,TN⟩:=R.ot.at hx;have u:Up bs l tr S i (bG P os o) m:=⟨hx,hm,hsi,hpre⟩;have m7:=j.vals R u;have Px:=j.wanted R u;have lO:(bG P os o).dst=o.dst:=(cI rfl).1;have D9:cond (bU (bG P os o).op) (i+1) c∈0::(b9 l).map (· +1):=by
  cases he:bU (bG P os o).op with
  |false=>exact hcan
  |true=>exact List.mem_cons_of_mem _ (List.mem_map.2 ⟨i,jO.2 ⟨_,hx,he⟩,rfl⟩)
 unfold wpOpIn;rw[ho];simp only;rcases TN with⟨eM,hw,hv,hst⟩|⟨eM,hw,hop⟩
 ·have hg:(bG P os o).guard.isSome=true:=by
   cases hg:(bG P os o).guard with
   |none=>simp[cE,hg] at hw
   |some _=>rfl
  have iM:=ec (P:=P) (ops:=os) rfl (.inr hg) j.env;rw[if_neg (by rw[iM,Px,hw];simp)];refine⟨fun _ _=>trivial,?_⟩;have:=hk _ _ _ _ D9 (j.quiet R u hst (by unfold dL;split<;>simp_all) (by rw[hv];simp[AV.undef,AV.aY,bn]));rw[hv,fO,lO] at this;exact this
 ·have hnb:(bG P os o).op≠.bad:=by
   intro hb;rw[hb] at hop;exact hop
  have iM:=ec (P:=P) (ops:=os) rfl (.inl hnb) j.env;have hc:=((cI (P:=P) (ops:=os) (o:=o) rfl).2 (.inl hnb)).1;rw[if_pos (by rw[iM,Px,hw])];have IT:m.vals=(bG P os o).args.map (fF S l tr e).ev:=by rw[m7];exact yB
  have xB:bU (bG P os o).op=true→o.wpIn (FW ro) n P a w K Q:=by
   intro he;refine j.effect R u he hc lO yB hop ?_;intro ρ' w' hj;rw[he] at D9;exact hk _ _ _ _ D9 hj
  have II:aB tr h' (i+1)=aB tr h' i→dL (bG P os o) m=none→bU (bG P os o).op=false→m.v.aY (DS D l tr h' S)→K (a.put o.dst (real ρ m.v)) w:=by
   intro hst hmb he hv;have:=hk _ _ _ _ D9 (j.quiet R u hst hmb hv);rw[lO] at this;exact this
  generalize hq:bG P os o=q at*;obtain⟨qd,qg,SV,Pz⟩:=q;simp only at*;cases SV with
  |p p=>
   obtain⟨hp,hst⟩:=hop;rw[IT] at hp;have:=wF (w:=w) j.env hc hp;refine gw hc ?_;rw[this.1];exact II hst (by simp[dL]) rfl this.2
  |r r=>
   obtain⟨hp,hst⟩:=hop;have vV:=iK vU (i:=i) (o:=o) (by simpa using ho);have hr:=j.read R u (o:=r) rfl eM vV.2.2 (fun p gZ hb=>by
    obtain⟨y,hy,_⟩:=jO.1 gZ;have hlt:p<os.toList.length:=by
     have:=(List.getElem?_eq_some_iff.1 hy).1;rw[Array.length_toList];omega
    exact(iK vU (i:=p) (o:=os.toList[p]) (List.getElem?_eq_getElem hlt)).2.2 i hb) hcan rm hp
   rw[IT] at hr;have:=BT j.env j.inv hc hr;refine gw hc ?_;rw[this.1];exact II hst (by simp[dL]) rfl this.2
  |a o'=>
   obtain⟨bk,f,hp,Ua,hst⟩:=hop;have hmb:dL ⟨qd,qg,.a o',Pz⟩ m=some bk:=by simp[dL,eM,hp]
   rw[IT] at hp;obtain⟨obj,hrun,zE,hf⟩:=Az (H0:=H0) (w:=w) j.env hc hp;have hid:DS D l tr h' (cZ S i) (aB tr h' i).next:=by
    refine(jW u.lt _).2 (.inr ⟨Nat.le_refl _,?_⟩);rw[hst];simp
   have GN:=j.alloc R u hmb (obj:=obj) (fun ρ' D' h1 h2=>zE ρ' D' h1 h2 j.inv.low) (by rw[Ua];exact hf _ _ hid);have:=hk _ _ _ _ hcan GN;refine gw hc ?_;rw[hrun (aB tr h' i).next _ (bP _ _ _),←Ua];show K (a.put o.dst _) _;rw[←lO];exact this
  |bad=>exact hop.elim
  |e o'=>exact xB rfl
  |call=>exact xB rfl
  |invoke s=>exact xB rfl
  |panic=>exact xB rfl
theorem HM(R:Rg P H0 D N l bs e h tr e' h'){os:Array Oper}(hos:os.toList.map (bG P os)=l)(vU:kU bs os.toList=true)
  (rm:ew (cJ l tr h') l ((List.range l.length).map (kJ bs l (b9 l))) tr){Q:Exit→Act→World→Prop}
  (hQ:∀ρ' a' w',Inv P H0 ρ' (grow D h.next h'.next) h' w'→Ext qQ D h w0 ρ' h' w'→bJ ρ' (grow D h.next h'.next) N e' a'→a'.defers=a0.defers→Q .normal a' w'):
  ∀(fuel:Nat) (listed:Array Bool) (c:Nat) (ρ:cF) (a:Act) (w:World),listed.size=os.size→c∈0::(b9 l).map (· +1)→
   J P H0 D N l bs e h tr h' qQ w0 a0 (fun j=>listed.getD j false) c ρ a w→os.size≤fuel+cnt (fun j=>listed.getD j false) os.size→
   wpAnyIn (FW ro) n P .any os Q fuel listed a w:=by
 have hlen:l.length=os.size:=by rw[←hos];simp
 intro fuel;induction fuel with
 |zero=>
  intro listed c ρ a w hsz hcan hj QH;have hall:∀k,k<os.size→listed.getD k false=true:=AY (fun j=>listed.getD j false) os.size (by omega);refine⟨?_,?_⟩
  ·rw[List.eq_nil_iff_forall_not_mem];intro i hi;obtain⟨h1,o,ho,_⟩:=mem_ready.1 hi;have hlt:=(Array.getElem?_eq_some_iff.1 ho).1;have:=hall i hlt;simp[Array.getD_eq_getD_getElem?,hsz,hlt] at h1 this;rw[h1] at this;simp at this
  ·obtain⟨g1,g2,g3,g4⟩:=hj.finish R (fun k hk=>hall k (by omega));exact hQ ρ a w g1 g2 g3 g4
 |succ fuel ih=>
  intro listed c ρ a w hsz hcan hj QH;refine⟨fun hr=>?_,fun i hi=>?_⟩
  ·
   have hall:∀k,k<os.size→listed.getD k false=true:=by
    intro k;induction k using Nat.strongRecOn with
    |_ k Rq=>
     intro hk;cases hs:listed.getD k false with
     |true=>rfl
     |false=>
      have hmem:k∈Region.ready .any os listed:=by
       rw[mem_ready];refine⟨by simp[Array.getD_eq_getD_getElem?,hsz,hk] at hs⊢;exact hs,os[k],by simp[hk],fun ed vV hb=>?_⟩;have hlt:=(iK vU (i:=k) (o:=os[k]) (by simp[hk])).2.1 ed (by simpa using vV) hb;exact Rq ed.on hlt (by omega)
      rw[hr] at hmem;simp at hmem
   obtain⟨g1,g2,g3,g4⟩:=hj.finish R (fun k hk=>hall k (by omega));exact hQ ρ a w g1 g2 g3 g4
  ·obtain⟨h1,o,ho,tG⟩:=mem_ready.1 hi;have hlt:=(Array.getElem?_eq_some_iff.1 ho).1;have hsi:listed.getD i false=false:=by
    simp[Array.getD_eq_getD_getElem?,hsz,hlt] at h1⊢;exact h1
   have hS:(fun j=>(listed.setIfInBounds i true).getD j false)=cZ (fun j=>listed.getD j false) i:=by
    funext k
    by_cases hk:k=i
    ·subst hk;simp[cZ,Array.getD_eq_getD_getElem?,hsz,hlt]
    ·simp only[cZ,hk,decide_false,Bool.or_false];exact getD_set_ne false (fun e=>hk e.symm)
   refine ye R (fun i o ho _=>by rw[←hos,List.getElem?_map];simp[ho]) (by omega) (by omega) vU rm hj hcan ho hsi ?_ ?_
   ·intro k hb;obtain⟨ed,vV,yz,eM⟩:=(iK vU (i:=i) (o:=o) (by simpa using ho)).1 k hb;have:=tG ed (by simpa using vV) yz;rcases eM with rfl|eM
    ·exact this
    ·exact hj.closed _ this k eM
   ·intro c' ρ' a' w' fV hj';refine ih (listed.setIfInBounds i true) c' ρ' a' w' (by simp[hsz]) fV (by rw[hS];exact hj') ?_;rw[hS,tj (S:=fun j=>listed.getD j false) hsi];simp only[hlt,decide_true,cond_true];omega
end
section
variable {P:Program} {H0:Nat} {e e':Env} {h h':Heap} {rd:Bool}
theorem Kb(QV:P.follows .mixedOrders=true){l:List bE}{win:List (List Nat)}{tr:List aN}(kB:OT P H0 l e h tr e' h')(Bq:ni l win tr h'):
  bN P H0 rd (.cn l win) e h .normal e' h':=by
 refine cH fun code hs hc N hN ro hro ρ D w a W0 n tl hi he hm hW=>?_;obtain⟨idr,os,rfl,hos,tI,vW,rfl⟩:=qD hs hc;have R:Rg P H0 D N l (nD os) e h tr e' h':=⟨kB,kB.tY hos hN hi he,hi.lt,wG tI,hN⟩;refine wpIn_region_any QV ?_;have hi':Inv P H0 ρ D h {w with drawn:=w.drawn+1}:=by
  refine⟨hi.lt,hi.top,hi.low,fun b x hb hx=>?_,hi.apart⟩;exact bQ (hi.bK b x hb hx) (fun _=>id) (fun _ _=>rfl) rfl
 have hS:(fun j=>(Array.replicate os.size false).getD j false)=fun _=>false:=by
  funext k
  simp[Array.getD_eq_getD_getElem?,Array.getElem?_replicate];split<;>simp
 have hst:=J.start R hi' he;rw[←hS] at hst;refine HM R hos vW Bq ?_ os.size _ 0 _ a _ (by simp) (by simp) hst (by omega);intro ρ' a' w' g1 g2 g3 g4;have KF:Ext ρ D h w ρ' h' w':=⟨g2.next,g2.bB,g2.size,g2.frame,g2.iD,g2.old,g2.fresh,g2.tape,g2.os,g2.output⟩;exact⟨ρ',rfl,g1,KF,g3,by rw[g4];exact hm.ext hi.lt KF,fun _=>g4⟩
theorem CI{bs:List Nat}{os:List Oper}(hp:kU bs os=true){i:Nat}{o:Oper}(ho:os[i]?=some o){j:Nat}{ed:Edge}(vU:ed∈o.after.toList)(hb:Region.binds .any ed=true)(hj:ed.on=j∨oG bs ed.on j):oG bs i j:=by
 have h1:=lG hp ho;simp only[Nat.zero_add,Bool.and_eq_true,decide_eq_true_eq] at h1;have h2:=Nat.eq_of_beq_eq_true h1.2;unfold oG at*;rw[h2,tE (fun ed=>Region.binds .any ed) (fun ed=>bs.getD ed.on 0) (fun ed=>ed.on) j o.after.toList 0,Nat.zero_testBit,Bool.false_or,List.any_eq_true];refine⟨ed,vU,?_⟩;rcases hj with hj|hj
 ·simp[hb,hj]
 ·simp only[hb,hj,Bool.or_true,Bool.and_self]
theorem Fp{bs:List Nat}{os:List Oper}(hp:kU bs os=true):∀(i:Nat),i<os.length→∀{k j:Nat},oG bs i k→oG bs k j→oG bs i j:=by
 intro i;induction i using Nat.strongRecOn with
 |_ i ih=>
  intro hi k j hk hj;have ho:os[i]?=some os[i]:=List.getElem?_eq_getElem hi;obtain⟨ed,h1,h2,h3⟩:=(iK hp ho).1 k hk;have hlt:=(iK hp ho).2.1 ed h1 h2;refine CI hp ho h1 h2 (.inr ?_);rcases h3 with h3|h3
  ·rw[h3];exact hj
  ·exact ih ed.on hlt (by omega) h3 hj
theorem yI{y:bE}:∀{r:List bE},linked y r=true→∃(k:Nat) (z:bE),r[k]?=some z∧((bU y.op=true∧bU z.op=true)∨nC y z=false)
 |[],h=>by simp[linked] at h
 |z::r,h=>by
  simp only[linked,Bool.or_eq_true,Bool.and_eq_true,Bool.not_eq_true'] at h;rcases h with(h|h)|h
  ·exact⟨0,z,rfl,.inl h⟩
  ·exact⟨0,z,rfl,.inr h⟩
  ·obtain⟨k,z',h1,h2⟩:=yI h;exact⟨k+1,z',h1,h2⟩
theorem yG:∀{l:List bE},rA l=true→∀{j:Nat} {y:bE},l[j]?=some y→j+1<l.length→∃(k:Nat) (z:bE),j<k∧l[k]?=some z∧((bU y.op=true∧bU z.op=true)∨nC y z=false)
 |[],_,j,y,hy,hlt=>by simp at hlt
 |[_],_,j,y,hy,hlt=>by simp at hlt
 |y0::z0::r,h,j,y,hy,hlt=>by
  simp only[rA,Bool.and_eq_true] at h;cases j with
  |zero=>
   simp only[List.getElem?_cons_zero,Option.some.injEq] at hy;subst hy;obtain⟨k,z,h1,h2⟩:=yI h.1;exact⟨k+1,z,by omega,by rw[List.getElem?_cons_succ];exact h1,h2⟩
  |succ j=>
   rw[List.getElem?_cons_succ] at hy;obtain⟨k,z,h1,h2,h3⟩:=yG h.2 hy (by simp only[List.length_cons] at hlt⊢;omega);exact⟨k+1,z,by omega,by rw[List.getElem?_cons_succ];exact h2,h3⟩
theorem I2{bs:List Nat}{os:List Oper}{l:List bE}(tI:vh bs l=true)(vU:kU bs os=true)(hlen:os.length=l.length)(hl:rA l=true){n:Nat}(hn:n+1=l.length):
  ∀(d j:Nat),j+d=n→j<n→oG bs n j:=by
 intro d;induction d using Nat.strongRecOn with
 |_ d ih=>
  intro j hd hj;have hy:l[j]?=some l[j]:=List.getElem?_eq_getElem (by omega);obtain⟨k,z,h1,h2,h3⟩:=yG hl hy (by omega);have hk:=(List.getElem?_eq_some_iff.1 h2).1;have hb:oG bs k j:=by
   rcases wG tI j k _ _ h1 hy h2 with hb|⟨q8,kO⟩
   ·exact hb
   ·rcases h3 with h3|h3
    ·exact absurd h3 q8
    ·rw[h3] at kO;simp at kO
  by_cases hkn:k=n
  ·rw[←hkn];exact hb
  ·have:=ih (n-k) (by omega) k (by omega) (by omega);exact Fp vU n (by omega) this hb
theorem Cd{bs:List Nat}{l1:List bE}{i0:bE}(xB:bU i0.op=true)(Bb:∀j,j<l1.length→¬oG bs j l1.length)(hb:∀j,j<l1.length→oG bs l1.length j):
  ((List.range (l1++[i0]).length).map (kJ bs (l1++[i0]) (b9 (l1++[i0])))).take l1.length=(List.range l1.length).map (kJ bs l1 (b9 l1)):=by
 have T0:b9 (l1++[i0])=b9 l1++[l1.length]:=by
  unfold b9;rw[List.length_append,List.length_singleton,List.range_succ,List.filter_append]
  congr 1
  ·refine List.filter_congr fun k hk=>?_;rw[List.mem_range] at hk;rw[List.getElem?_append_left hk]
  ·simp[xB]
 rw[←List.map_take,List.length_append,List.length_singleton,List.take_range,Nat.min_eq_left (by omega)];refine List.map_congr_left fun j hj=>?_;rw[List.mem_range] at hj;have TP:oP bs (l1++[i0]) (b9 l1++[l1.length]) j=oP bs l1 (b9 l1) j:=by
  unfold oP;rw[List.map_append,←List.cons_append,List.filter_append];have h1:List.filter (uw bs (b9 l1++[l1.length]) j) (0::(b9 l1).map (· +1))=List.filter (uw bs (b9 l1) j) (0::(b9 l1).map (· +1)):=by
   refine List.filter_congr fun c hc=>?_;have kY:c≤l1.length:=by
    rcases List.mem_cons.1 hc with rfl|hc
    ·omega
    ·obtain⟨p,hp,rfl⟩:=List.mem_map.1 hc;obtain⟨y,hy,_⟩:=jO.1 hp;exact(List.getElem?_eq_some_iff.1 hy).1
   have hf:(bs.getD j 0).testBit l1.length=false:=by
    have:=Bb j hj;unfold oG at this;simpa using this
   unfold uw;rw[List.all_append];simp only[List.all_cons,List.all_nil,hf,Bool.not_false,Bool.true_or,Bool.true_and,Bool.and_true,show¬(l1.length<c) by omega,decide_false,Bool.or_true]
  have h2:List.filter (uw bs (b9 l1++[l1.length]) j) (List.map (· +1) [l1.length])=[]:=by
   have YN:(bs.getD l1.length 0).testBit j=true:=hb j hj;have:uw bs (b9 l1++[l1.length]) j (l1.length+1)=false:=by
    unfold uw;rw[List.all_append];simp only[List.all_cons,List.all_nil,YN,Bool.not_true,Bool.false_or,Bool.and_true,Nat.lt_succ_self,decide_true,Bool.not_true,Bool.and_false]
   simp[this]
  rw[h1,h2,List.append_nil]
 unfold kJ;rw[T0,List.getElem?_append_left hj];cases l1[j]? with
 |none=>rfl
 |some x=>simp only[TP]
theorem FC{D:Dom}{N n:Nat}{l1:List bE}{i0:bE}{bs:List Nat}{tr:List aN}{qQ:cF}{w0:World}{a0:Act}{ro:Option Nat}{v:AV}{h2:Heap}(R:Rg P H0 D N l1 bs e h tr e' h'){os:Array Oper}(hos:os.toList.map (bG P os)=l1++[i0])(vU:kU bs os.toList=true)
  (rm:ew (cJ l1 tr h') l1 ((List.range l1.length).map (kJ bs l1 (b9 l1))) tr)(hb:∀j,j<l1.length→oG bs l1.length j)(hw0:cE i0 e'=true)(hnb:i0.op≠.bad)(hop:mF P H0 i0.op (i0.args.map e'.ev) h' v h2)
  {Q:Exit→Act→World→Prop}
  (hQ:∀ρ' a' w',Inv P H0 ρ' (grow D h.next h2.next) h2 w'→Ext qQ D h w0 ρ' h2 w'→bJ ρ' (grow D h.next h2.next) N e' a'→a'.defers=a0.defers→v.aY (grow D h.next h2.next)→Q (.panic [{v:=real ρ' v,recovered:=false}]) a' w'):
  ∀(fuel:Nat) (listed:Array Bool) (c:Nat) (ρ:cF) (a:Act) (w:World),listed.size=os.size→c∈0::(b9 l1).map (· +1)→listed.getD l1.length false=false→
   J P H0 D N l1 bs e h tr h' qQ w0 a0 (fun j=>listed.getD j false) c ρ a w→os.size≤fuel+cnt (fun j=>listed.getD j false) os.size→
   wpAnyIn (FW ro) n P .any os Q fuel listed a w:=by
 have hlen:os.size=l1.length+1:=by have h:=congrArg List.length hos;simpa using h
 have hnot:∀(S:Nat→Bool),S l1.length=false→cnt S os.size≤l1.length:=by
  intro S hS;rw[hlen];simp only[cnt,hS,cond_false];exact Cy S _
 have Ci:∀i o,os[i]?=some o→(l1++[i0])[i]?=some (bG P os o):=fun i o ho=>by rw[←hos,List.getElem?_map,Array.getElem?_toList,ho];rfl
 intro fuel;induction fuel with
 |zero=>
  intro listed c ρ a w hsz hcan FR hj QH;have:=hnot (fun j=>listed.getD j false) FR;omega
 |succ fuel ih=>
  intro listed c ρ a w hsz hcan FR hj QH;refine⟨fun hr=>?_,fun i hi=>?_⟩
  ·exfalso;have hall:∀k,k<os.size→listed.getD k false=true:=by
    intro k;induction k using Nat.strongRecOn with
    |_ k Rq=>
     intro hk;cases hs:listed.getD k false with
     |true=>rfl
     |false=>
      have hmem:k∈Region.ready .any os listed:=by
       rw[mem_ready];refine⟨by simp[Array.getD_eq_getD_getElem?,hsz,hk] at hs⊢;exact hs,os[k],by simp[hk],fun ed vV hb=>?_⟩;have hlt:=(iK vU (i:=k) (o:=os[k]) (by simp[hk])).2.1 ed (by simpa using vV) hb;exact Rq ed.on hlt (by omega)
      rw[hr] at hmem;simp at hmem
   rw[hall l1.length (by omega)] at FR;simp at FR
  ·obtain⟨h1,o,ho,tG⟩:=mem_ready.1 hi;have hlt:=(Array.getElem?_eq_some_iff.1 ho).1;have hsi:listed.getD i false=false:=by
    simp[Array.getD_eq_getD_getElem?,hsz,hlt] at h1⊢;exact h1
   have hS:(fun j=>(listed.setIfInBounds i true).getD j false)=cZ (fun j=>listed.getD j false) i:=by
    funext k
    by_cases hk:k=i
    ·subst hk;simp[cZ,Array.getD_eq_getD_getElem?,hsz,hlt]
    ·simp only[cZ,hk,decide_false,Bool.or_false];exact getD_set_ne false (fun e=>hk e.symm)
   by_cases KH:i<l1.length
   ·refine ye R (fun i o ho hi=>by have hh:=Ci i o ho;rw[List.getElem?_append_left hi] at hh;exact hh) (by omega) KH vU rm hj hcan ho hsi ?_ ?_
    ·intro k hb;obtain⟨ed,vV,yz,eM⟩:=(iK vU (i:=i) (o:=o) (by simpa using ho)).1 k hb;have:=tG ed (by simpa using vV) yz;rcases eM with rfl|eM
     ·exact this
     ·exact hj.closed _ this k eM
    ·intro c' ρ' a' w' fV hj';refine ih (listed.setIfInBounds i true) c' ρ' a' w' (by simp[hsz]) fV (by rw[getD_set_ne false (by omega)];exact FR) (by rw[hS];exact hj') ?_;rw[hS,tj (S:=fun j=>listed.getD j false) hsi];simp only[hlt,decide_true,cond_true];omega
   ·have hin:i=l1.length:=by omega
    subst hin;have hall:∀k,k<l1.length→listed.getD k false=true:=by
     intro k hk;obtain⟨ed,vV,yz,eM⟩:=(iK vU (i:=l1.length) (o:=o) (by simpa using ho)).1 k (hb k hk);have:=tG ed (by simpa using vV) yz;rcases eM with rfl|eM
     ·exact this
     ·exact hj.closed _ this k eM
    obtain⟨g1,g2,g3,g4⟩:=hj.finish R hall;have hci:bG P os o=i0:=by
     have:=Ci _ o ho;rw[List.getElem?_append_right (Nat.le_refl _)] at this;simpa using this.symm
    have iM:=ec hci (.inl hnb) g3;have hc:=((cI hci).2 (.inl hnb)).1;unfold wpOpIn;rw[ho];simp only;rw[if_pos (by rw[iM,hw0])];refine hop o i0.args hc ρ _ w a N e' ro n g1 g3 rfl _ _ ?_;intro ρ' w' k1 k2 k3;have KK:=g2.next;have hn2:=k2.next;have k4:=g3.mono (ρ':=ρ') (D':=grow (grow D h.next h'.next) h'.next h2.next) k2.bB (fun _=>.inl);rw[dG D KK hn2] at k1 k3 k4;exact hQ ρ' a w' k1 (Ext.trans R.MY g2 k2) k4 g4 k3
theorem Gw(QV:P.follows .mixedOrders=true){l1:List bE}{i0:bE}{win:List (List Nat)}{tr:List aN}{v:AV}{h2:Heap}(kB:OT P H0 l1 e h tr e' h')(Bq:ni l1 (win.take l1.length) tr h')(Iu:rA (l1++[i0])=true)(xB:bU i0.op=true)
  (hw0:cE i0 e'=true)(hop:i0.op≠.bad∧mF P H0 i0.op (i0.args.map e'.ev) h' v h2):bN P H0 rd (.cn (l1++[i0]) win) e h (.panic v) e' h2:=by
 refine cH fun code hs hc N hN ro hro ρ D w a W0 n tl hi he hm hW=>?_;obtain⟨idr,os,rfl,hos,tI,vW,rfl⟩:=qD hs hc;have SK:cV N (l1++[i0])=true:=hN;rw[qe,Bool.and_eq_true] at SK;have hlen:os.size=l1.length+1:=by have:=congrArg List.length hos;simpa using this
 have hb:=fun j hj=>I2 tI vW (by simpa using hlen) Iu (n:=l1.length) (by simp) (l1.length-j) j (by omega) hj;have Bb:∀j,j<l1.length→¬oG (nD os) j l1.length:=by
  intro j hj YN;have:=(iK vW (i:=j) (o:=os.toList[j]'(by simp;omega)) (List.getElem?_eq_getElem _)).2.2 _ YN;omega
 rw[Cd xB Bb hb] at Bq;have hpre:(os.toList.take l1.length).map (bG P os)=l1:=by rw[List.map_take,hos];simp
 have R:Rg P H0 D N l1 (nD os) e h tr e' h':=⟨kB,kB.tY hpre SK.1 hi he,hi.lt,fun i j x y hij hx hy=>wG tI i j x y hij (by rw[List.getElem?_append_left (List.getElem?_eq_some_iff.1 hx).1];exact hx) (by rw[List.getElem?_append_left (List.getElem?_eq_some_iff.1 hy).1];exact hy),SK.1⟩;refine wpIn_region_any QV ?_;have hi':Inv P H0 ρ D h {w with drawn:=w.drawn+1}:=by
  refine⟨hi.lt,hi.top,hi.low,fun b x hb hx=>?_,hi.apart⟩;exact bQ (hi.bK b x hb hx) (fun _=>id) (fun _ _=>rfl) rfl
 have hS:(fun j=>(Array.replicate os.size false).getD j false)=fun _=>false:=by
  funext k
  simp[Array.getD_eq_getD_getElem?,Array.getElem?_replicate];split<;>simp
 have hst:=J.start R hi' he;rw[←hS] at hst;refine FC R hos vW Bq hb hw0 hop.1 hop.2 ?_ os.size _ 0 _ a _ (by simp) (by simp) (congrFun hS _) hst (by omega);intro ρ' a' w' g1 g2 g3 g4 g5;have KF:Ext ρ D h w ρ' h2 w':=⟨g2.next,g2.bB,g2.size,g2.frame,g2.iD,g2.old,g2.fresh,g2.tape,g2.os,g2.output⟩;exact⟨ρ',⟨rfl,g5⟩,g1,KF,g3,by rw[g4];exact hm.ext hi.lt KF,fun _=>g4⟩
end
end Ads
end Go.Proofs.YtnlcabhfkpafmaaGreat
