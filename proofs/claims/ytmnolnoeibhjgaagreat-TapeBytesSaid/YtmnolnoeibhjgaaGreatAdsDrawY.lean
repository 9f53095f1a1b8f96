/-
  Regions that draw their order mean what they mean in the text's order.
  Regions that draw their order mean what they mean in the text's order: the induction.
-/
import Derived.Test.YtmnolnoeibhjgaaGreatAdsDrawX
import Derived.Test.YtmnolnoeibhjgaaGreatAdsCode
set_option linter.unusedSimpArgs false
set_option linter.unusedVariables false
namespace Go.Proofs.YtmnolnoeibhjgaaGreat
namespace Ads
section
variable {P:Program} {H0:Nat} {D:Dom} {N:Nat} {l:List bp} {bs:List Nat} {e:Env} {h:Heap} {tr:List aK} {e':Env} {h':Heap}
 {qM:cG} {w0:World} {a0:Act} {S:Nat→Bool} {c:Nat} {ρ:cG} {a:Act} {w:World} {i:Nat} {x:bp} {m:aK} {ro:Option Nat} {n:Nat} {rd:Bool}
theorem kY{α:Type}{f:Nat→α→Bool}:∀{l:List α} {k:Nat},sY f k l=true→∀{i:Nat} {x:α},l[i]?=some x→f (k+i) x=true
 |[],k,h,i,x,hx=>by simp at hx
 |y::l,k,h,i,x,hx=>by
  simp only[sY] at h;cases hf:f k y with
  |false=>rw[hf] at h;simp at h
  |true=>
   rw[hf] at h;cases i with
   |zero=>simp at hx;subst hx;exact hf
   |succ i=>
    simp at hx;have:=kY (k:=k+1) h hx
    rwa [show k+1+i=k+(i+1) by omega] at this
theorem vY(hp:uL bs l=true)(i j:Nat)(x y:bp)(hij:i<j)(hx:l[i]?=some x)(hy:l[j]?=some y):oB bs j i∨(¬(bS x.op=true∧bS y.op=true)∧nu x y=true):=by
 have h1:=kY hp hy;have h2:=kY h1 hx;simp only[Nat.zero_add,Bool.or_eq_true,decide_eq_true_eq,Bool.and_eq_true,Bool.not_eq_true',Bool.and_eq_false_iff] at h2;rcases h2 with(h2|h2)|h2
 ·omega
 ·exact .inl h2
 ·refine .inr ⟨?_,h2.2⟩;rintro⟨g1,g2⟩;rcases h2.1 with h3|h3
  ·rw[g1] at h3;simp at h3
  ·rw[g2] at h3;simp at h3
theorem tj{β:Type}(b:β→Bool)(g:β→Nat)(k:β→Nat)(j:Nat):∀(L:List β) (s:Nat),
  (L.foldl (fun s e=>cond (b e) (s|||2^k e|||g e) s) s).testBit j=(s.testBit j||L.any fun e=>b e&&(decide (k e=j)||(g e).testBit j))
 |[],s=>by simp
 |e::L,s=>by
  rw[List.foldl_cons,tj b g k j L];cases hb:b e
  ·simp[hb]
  ·simp[hb,Nat.testBit_or,Nat.testBit_two_pow,Bool.or_assoc]
theorem iH{os:List Oper}(hp:kA bs os=true){i:Nat}{o:Oper}(ho:os[i]?=some o):
  (∀j,oB bs i j→∃ed∈o.after.toList,Region.binds .any ed=true∧(ed.on=j∨oB bs ed.on j))∧(∀ed∈o.after.toList,Region.binds .any ed=true→ed.on<i)∧∀j,oB bs i j→j<i:=by
 have h1:=kY hp ho;simp only[Nat.zero_add,Bool.and_eq_true,decide_eq_true_eq] at h1;have h2:=Nat.eq_of_beq_eq_true h1.2;have hlt:∀j,oB bs i j→j<i:=by
  intro j hb;rcases Nat.lt_or_ge j i with hj|hj
  ·exact hj
  ·have:(bs.getD i 0).testBit j=false:=Nat.testBit_lt_two_pow (Nat.lt_of_lt_of_le h1.1 (Nat.pow_le_pow_right (by omega) hj));unfold oB at hb;rw[this] at hb;simp at hb
 have Rr:∀j,(bs.getD i 0).testBit j=o.after.toList.any fun ed=>Region.binds .any ed&&(decide (ed.on=j)||(bs.getD ed.on 0).testBit j):=by
  intro j;rw[h2,tj (fun ed=>Region.binds .any ed) (fun ed=>bs.getD ed.on 0) (fun ed=>ed.on) j o.after.toList 0];simp
 refine⟨fun j hb=>?_,fun ed vz xZ=>?_,hlt⟩
 ·unfold oB at hb;rw[Rr,List.any_eq_true] at hb;obtain⟨ed,vz,hb⟩:=hb;simp only[Bool.and_eq_true,Bool.or_eq_true,decide_eq_true_eq] at hb;exact⟨ed,vz,hb.1,hb.2⟩
 ·refine hlt _ ?_;unfold oB;rw[Rr,List.any_eq_true];exact⟨ed,vz,by simp[xZ]⟩
theorem qF{code:Code}{win:List (List Nat)}(hs:c8 code=false)(hc:aE P code=.bI l win):∃id os,code=.region id os true∧os.toList.map (bE P os)=l∧
  uL (nv os) l=true∧kA (nv os) os.toList=true∧win=(List.range l.length).map (kj (nv os) l (bZ l)):=by
 cases code<;>simp[aE,c8] at hc hs
 case region id os draw=>
  unfold gC at hc;simp only at hc;cases draw with
  |false=>simp at hc
  |true=>
   simp only[Bool.not_true,Bool.false_eq_true,if_false] at hc;split at hc
   ·rename_i oq;simp only[AC.bI.injEq] at hc;simp only[Bool.and_eq_true] at oq;obtain⟨rfl,rfl⟩:=hc;exact⟨id,os,rfl,rfl,oq.1,oq.2,rfl⟩
   ·simp at hc
 case cond c x y=>split at hc<;>simp at hc
 case rangeFunc f ps x y=>split at hc<;>simp at hc
def cnt(S:Nat→Bool):Nat→Nat
 |0=>0
 |n+1=>cnt S n+cond (S n) 1 0
theorem Ci(S:Nat→Bool):∀n,cnt S n≤n
 |0=>Nat.le_refl _
 |n+1=>by have:=Ci S n;simp only[cnt];cases S n<;>simp<;>omega
theorem Az(S:Nat→Bool):∀n,n≤cnt S n→∀j,j<n→S j=true
 |0,_,j,hj=>by omega
 |n+1,h,j,hj=>by
  simp only[cnt] at h;have:=Ci S n;cases hs:S n with
  |false=>rw[hs] at h;simp at h;omega
  |true=>
   rw[hs] at h;simp at h;by_cases hjn:j=n
   ·subst hjn;exact hs
   ·exact Az S n (by omega) j (by omega)
theorem s8(hs:S i=false):∀n,cnt (dg S i) n=cnt S n+cond (decide (i<n)) 1 0
 |0=>by simp[cnt]
 |n+1=>by
  simp only[cnt];rw[s8 hs n];by_cases hin:n=i
  ·subst hin;simp[dg,hs]
  ·have:dg S i n=S n:=by simp[dg,hin]
   rw[this];by_cases hlt:i<n
   ·simp[hlt,show i<n+1 by omega];omega
   ·simp[hlt,show¬i<n+1 by omega]
theorem jG{p:Nat}:p∈bZ l↔∃x,l[p]?=some x∧bS x.op=true:=by
 unfold bZ;rw[List.mem_filter,List.mem_range];cases hx:l[p]? with
 |none=>simp[List.getElem?_eq_none_iff.1 hx]
 |some x=>simp[(List.getElem?_eq_some_iff.1 hx).1]
theorem ug{u:Nat→Heap}:∀{l:List bp} {win:List (List Nat)} {tr:List aK},cz u l win tr→∀{i:Nat} {x:bp} {cs:List Nat} {m:aK} {o:BU},l[i]?=some x→win[i]?=some cs→tr[i]?=some m→
  x.op=.r o→m.on=true→∀c∈cs,rI o m.vals (u c)=some m.v
 |[],win,tr,h,i,x,cs,m,o,hx,hw,hm,ho,gb=>by simp at hx
 |y::l,[],tr,h,i,x,cs,m,o,hx,hw,hm,ho,gb=>by simp at hw
 |y::l,ds::win,[],h,i,x,cs,m,o,hx,hw,hm,ho,gb=>by simp at hm
 |y::l,ds::win,q::tr,h,i,x,cs,m,o,hx,hw,hm,ho,gb=>by
  simp only[cz] at h;cases i with
  |zero=>
   simp at hx hw hm;subst hx hw hm;have:=h.1;rw[ho] at this;exact this gb
  |succ i=>
   simp at hx hw hm;exact ug h.2 hx hw hm ho gb
theorem BI(l:List bp):∀i:Nat,∃ct,ct∈0::(bZ l).map (· +1)∧ct≤i∧∀p,p∈bZ l→p<i→p<ct
 |0=>⟨0,by simp,Nat.le_refl _,fun p _ h=>by omega⟩
 |i+1=>by
  obtain⟨ct,h1,h2,h3⟩:=BI l i;by_cases hi:i∈bZ l
  ·exact⟨i+1,List.mem_cons_of_mem _ (List.mem_map.2 ⟨i,hi,rfl⟩),Nat.le_refl _,fun p _ h=>h⟩
  ·refine⟨ct,h1,by omega,fun p hp hlt=>h3 p hp ?_⟩;rcases Nat.lt_or_ge p i with h|h
   ·exact h
   ·have:p=i:=by omega
    subst this;exact absurd hp hi
theorem J.read(R:Rg P H0 D N l bs e h tr e' h')(j:J P H0 D N l bs e h tr h' qM w0 a0 S c ρ a w)(u:Up bs l tr S i x m){o:BU}(ho:x.op=.r o)(gb:m.on=true)
  (Yb:∀j,oB bs i j→j<i)(R4:∀p,p∈bZ l→oB bs p i→i<p)(hcan:c∈0::(bZ l).map (· +1))
  (ri:cz (cA l tr h') l ((List.range l.length).map (kj bs l (bZ l))) tr)(hr:rI o m.vals (aC tr h' i)=some m.v):rI o m.vals (cA l tr h' c)=some m.v:=by
 have hmay:∀c,c∈0::(bZ l).map (· +1)→(∀p,p∈bZ l→oB bs i p→p<c)→(∀p,p∈bZ l→oB bs p i→¬p<c)→c∈oM bs l (bZ l) i:=by
  intro c hc h1 h2;unfold oM;rw[List.mem_filter];refine⟨hc,?_⟩;unfold ue;rw[List.all_eq_true];intro p hp;simp only[Bool.and_eq_true,Bool.or_eq_true,Bool.not_eq_true',decide_eq_true_eq,decide_eq_false_iff_not];constructor
  ·cases hb:(bs.getD i 0).testBit p with
   |false=>exact .inl rfl
   |true=>exact .inr (h1 p hp hb)
  ·cases hb:(bs.getD p 0).testBit i with
   |false=>exact .inl rfl
   |true=>exact .inr (h2 p hp hb)
 have hc:c∈oM bs l (bZ l) i:=by
  refine hmay c hcan (fun p hp hb=>?_) (fun p hp hb hlt=>?_)
  ·obtain⟨y,hy,Sg⟩:=jG.1 hp;exact(j.cut p y hy Sg).1 (u.pre p hb)
  ·obtain⟨y,hy,Sg⟩:=jG.1 hp;have:=j.closed p ((j.cut p y hy Sg).2 hlt) i hb;rw[u.hsi] at this;simp at this
 have hw:((List.range l.length).map (kj bs l (bZ l)))[i]?=some (kj bs l (bZ l) i):=by
  simp[u.lt]
 have Hj:=ug ri u.hx hw u.hm ho gb;by_cases hone:∃c0,oM bs l (bZ l) i=[c0]
 ·obtain⟨c0,hc0⟩:=hone;obtain⟨ct,k1,k2,k3⟩:=BI l i;have XD:=hmay ct k1 (fun p hp hb=>k3 p hp (Yb p hb)) (fun p hp hb hlt=>by have:=R4 p hp hb;omega);rw[hc0] at hc XD;simp at hc XD;subst XD;have hsame:∀b,(cA l tr h' c).get b=(cA l tr h' i).get b:=by
   intro b;rw[hc];have:=R.tO (c:=ct) b (i-ct) (fun q y Ln Lo hy=>by
    cases Sg:bS y.op with
    |false=>rfl
    |true=>have:=k3 q (jG.2 ⟨y,hy,Sg⟩) (by omega);omega)
   rwa [show ct+(i-ct)=i by omega] at this
  refine D3 (h:=aC tr h' i) ?_ hr;intro b y hy;have hlt:b<(aC tr h' i).next:=by
   rcases Nat.lt_or_ge b (aC tr h' i).next with hb|hb
   ·exact hb
   ·rw[R.tN.top i b hb] at hy;simp at hy
  rw[hsame b,R.El hlt];exact hy
 ·refine Hj c ?_;unfold kj;rw[u.hx];simp only[ho,Hy,cond_true];split
  ·rename_i q hq;exact absurd ⟨q,hq⟩ hone
  ·exact hc
theorem Inv.Pq{ρ ρ':cG}(j:Inv P H0 ρ D h w)(ga:∀b,D b→ρ' b=ρ b):Inv P H0 ρ' D h w:=
 ⟨j.lt,j.top,j.low,fun b x hb hx=>by rw[ga b hb];exact bR (j.bH b x hb hx) (fun _=>id) ga rfl,
  fun b b' hb hb' hne hw hx=>by rw[ga b hb,ga b' hb'];exact j.apart b b' hb hb' hne hw hx⟩
theorem J.start(R:Rg P H0 D N l bs e h tr e' h')(hi:Inv P H0 ρ D h w)(he:bG ρ D N e a):
  J P H0 D N l bs e h tr h' ρ w a (fun _=>false) 0 (fun b=>if b<h.next then ρ b else⟨w.heap.size,0,0⟩) a w:=by
 have ga:∀b,D b→(fun b=>if b<h.next then ρ b else⟨w.heap.size,0,0⟩:cG) b=ρ b:=fun b hb=>if_pos (R.Jr b hb);have hds:DS D l tr h' (fun _=>false)=D:=by
  funext b
  simp[DS]
 have hz:=R.ot.zero;have tA:h.next≤h'.next:=by have:=R.le_last 0;rwa [hz] at this
 have hg:∀b,b<h.next→(cA l tr h' 0).get b=h.get b:=by
  intro b hb;rw[R.El (by rw[hz];exact hb),hz]
 refine⟨fun j x _ _=>by simp,fun j hj=>by simp at hj,?_,?_,?_,?_,rfl⟩
 ·rw[hds];have hi':=hi.Pq ga;refine⟨fun b hb=>Nat.lt_of_lt_of_le (R.Jr b hb) tA,fun b hb=>R.Lv hb,hi.low,?_,?_⟩
  ·intro b x hb hx;rw[hg b (R.Jr b hb)] at hx;exact hi'.bH b x hb hx
  ·intro b b' hb hb' hne hw hx;rw[Heap.jj (hg b (R.Jr b hb))] at hw;rw[hg b' (R.Jr b' hb')] at hx;exact hi'.apart b b' hb hb' hne hw hx
 ·refine⟨tA,ga,Nat.le_refl _,fun _ _ _=>rfl,fun b hb _=>hg b hb,?_,?_,rfl,rfl,rfl⟩
  ·intro b hb hn;rw[hg b hb] at hn;exact⟨hn,fun hw=>(Heap.jj (hg b hb)).symm.trans hw⟩
  ·intro b oA gn;rw[if_neg (by omega)];exact .inl (Nat.le_refl _)
 ·intro j x m bk hx hm hb _;exact R.PG hx hm hb (Nat.zero_le _)
 ·rw[hds];refine(he.mono ga (fun _=>id)).congr ?_;intro d;refine(mP l tr (fun _=>false) 0 d e e rfl R.ot.length (fun j x _ _=>by simp)).trans ?_;cases l<;>cases tr<;>simp[cQ]
theorem uf(tr:List aK)(h':Heap)(lo:Nat):∀(k b:Nat),(aC tr h' 0).next≤b→b<(aC tr h' k).next→∃j,j<k∧(aC tr h' j).next≤b∧b<(aC tr h' (j+1)).next
 |0,b,h1,h2=>by omega
 |k+1,b,h1,h2=>by
  by_cases hb:b<(aC tr h' k).next
  ·obtain⟨j,g1,g2⟩:=uf tr h' lo k b h1 hb;exact⟨j,by omega,g2⟩
  ·exact⟨k,by omega,by omega,h2⟩
theorem J.finish(R:Rg P H0 D N l bs e h tr e' h')(j:J P H0 D N l bs e h tr h' qM w0 a0 S c ρ a w)(hall:∀k,k<l.length→S k=true):
  Inv P H0 ρ (grow D h.next h'.next) h' w∧Ext qM D h w0 ρ h' w∧bG ρ (grow D h.next h'.next) N e' a∧a.defers=a0.defers:=by
 have GW:Cut l S l.length:=fun k x hx _=>by
  have:=(List.getElem?_eq_some_iff.1 hx).1;simp[hall k this,this]
 have hg:∀b,h'.get b=(cA l tr h' c).get b:=by
  intro b;rw[R.Ek j.cut GW b];show h'.get b=(fu (l.drop l.length) (tr.drop l.length) (aC tr h' l.length).m).get b;rw[R.ot.last (Nat.le_refl _),List.drop_length];simp[fu,Heap.get]
 have hds:DS D l tr h' S=grow D h.next h'.next:=by
  funext b
  rw[eq_iff_iff];constructor
  ·rintro(hb|⟨q,_,_,h1,h2⟩)
   ·exact .inl hb
   ·exact .inr ⟨Nat.le_trans (R.tN.low q) h1,Nat.lt_of_lt_of_le h2 (R.le_last _)⟩
  ·rintro(hb|hb)
   ·exact .inl hb
   ·obtain⟨q,g1,g2,g3⟩:=uf tr h' 0 l.length b (by rw[R.ot.zero];exact hb.1) (by rw[R.ot.last (Nat.le_refl _)];exact hb.2);exact .inr ⟨q,hall q g1,g1,g2,g3⟩
 refine⟨?_,j.ext.congr rfl hg,?_,j.defers⟩
 ·rw[←hds];exact j.inv.congr rfl hg
 ·rw[←hds];refine j.env.congr ?_;intro d;rw[mP l tr S l.length d e e rfl R.ot.length (fun k x hx _=>by
   have:=(List.getElem?_eq_some_iff.1 hx).1;rw[hall k this];simp[this]),ta R.ot]
end
end Ads
end Go.Proofs.YtmnolnoeibhjgaaGreat
set_option linter.unusedSimpArgs false
set_option linter.unusedVariables false
namespace Go.Proofs.YtmnolnoeibhjgaaGreat
namespace Ads
section
variable {P:Program} {H0:Nat} {D:Dom} {N:Nat} {l:List bp} {bs:List Nat} {e:Env} {h:Heap} {tr:List aK} {e':Env} {h':Heap}
 {qM:cG} {w0:World} {a0:Act} {c:Nat} {ρ:cG} {a:Act} {w:World} {i:Nat} {x:bp} {m:aK} {ro:Option Nat} {n:Nat} {rd:Bool}
theorem xQ(R:Rg P H0 D N l bs e h tr e' h'){os:Array Oper}(hos:∀i o,os[i]?=some o→i<l.length→l[i]?=some (bE P os o))(hsz:l.length≤os.size)(RL:i<l.length)(vz:kA bs os.toList=true)
  (ri:cz (cA l tr h') l ((List.range l.length).map (kj bs l (bZ l))) tr){Q:Exit→Act→World→Prop}{S:Nat→Bool}
  (j:J P H0 D N l bs e h tr h' qM w0 a0 S c ρ a w)(hcan:c∈0::(bZ l).map (· +1)){o:Oper}(ho:os[i]?=some o)(hsi:S i=false)
  (hpre:∀j,oB bs i j→S j=true){K:Act→World→Prop}
  (hk:∀c' ρ' a' w',c'∈0::(bZ l).map (· +1)→J P H0 D N l bs e h tr h' qM w0 a0 (dg S i) c' ρ' a' w'→K a' w'):
  wpOpIn (FW ro) n P os Q i K a w:=by
 have hx:l[i]?=some (bE P os o):=hos i o ho RL;obtain⟨m,hm,A2,x7,Rt⟩:=R.ot.at hx;have u:Up bs l tr S i (bE P os o) m:=⟨hx,hm,hsi,hpre⟩;have mT:=j.vals R u;have Lr:=j.wanted R u;have lu:(bE P os o).dst=o.dst:=(cN rfl).1;have DC:cond (bS (bE P os o).op) (i+1) c∈0::(bZ l).map (· +1):=by
  cases he:bS (bE P os o).op with
  |false=>exact hcan
  |true=>exact List.mem_cons_of_mem _ (List.mem_map.2 ⟨i,jG.2 ⟨_,hx,he⟩,rfl⟩)
 unfold wpOpIn;rw[ho];simp only;rcases Rt with⟨gb,hw,hv,hst⟩|⟨gb,hw,hop⟩
 ·have hg:(bE P os o).guard.isSome=true:=by
   cases hg:(bE P os o).guard with
   |none=>simp[bO,hg] at hw
   |some _=>rfl
  have gp:=dV (P:=P) (ops:=os) rfl (.inr hg) j.env;rw[if_neg (by rw[gp,Lr,hw];simp)];refine⟨fun _ _=>trivial,?_⟩;have:=hk _ _ _ _ DC (j.quiet R u hst (by unfold dL;split<;>simp_all) (by rw[hv];simp[AV.undef,AV.aW,bl]));rw[hv,fA,lu] at this;exact this
 ·have hnb:(bE P os o).op≠.bad:=by
   intro hb;rw[hb] at hop;exact hop
  have gp:=dV (P:=P) (ops:=os) rfl (.inl hnb) j.env;have hc:=((cN (P:=P) (ops:=os) (o:=o) rfl).2 (.inl hnb)).1;rw[if_pos (by rw[gp,Lr,hw])];have FF:m.vals=(bE P os o).args.map (fc S l tr e).ev:=by rw[mT];exact x7
  have xp:bS (bE P os o).op=true→o.wpIn (FW ro) n P a w K Q:=by
   intro he;refine j.effect R u he hc lu x7 hop ?_;intro ρ' w' hj;rw[he] at DC;exact hk _ _ _ _ DC hj
  have Hi:aC tr h' (i+1)=aC tr h' i→dL (bE P os o) m=none→bS (bE P os o).op=false→m.v.aW (DS D l tr h' S)→K (a.put o.dst (real ρ m.v)) w:=by
   intro hst hmb he hv;have:=hk _ _ _ _ DC (j.quiet R u hst hmb hv);rw[lu] at this;exact this
  generalize hq:bE P os o=q at*;obtain⟨qd,qg,YK,Lu⟩:=q;simp only at*;cases YK with
  |p p=>
   obtain⟨hp,hst⟩:=hop;rw[FF] at hp;have:=vX (w:=w) j.env hc hp;refine gj hc ?_;rw[this.1];exact Hi hst (by simp[dL]) rfl this.2
  |r r=>
   obtain⟨hp,hst⟩:=hop;have vA:=iH vz (i:=i) (o:=o) (by simpa using ho);have hr:=j.read R u (o:=r) rfl gb vA.2.2 (fun p iA hb=>by
    obtain⟨y,hy,_⟩:=jG.1 iA;have hlt:p<os.toList.length:=by
     have:=(List.getElem?_eq_some_iff.1 hy).1;rw[Array.length_toList];omega
    exact(iH vz (i:=p) (o:=os.toList[p]) (List.getElem?_eq_getElem hlt)).2.2 i hb) hcan ri hp
   rw[FF] at hr;have:=Bt j.env j.inv hc hr;refine gj hc ?_;rw[this.1];exact Hi hst (by simp[dL]) rfl this.2
  |a o'=>
   obtain⟨bk,f,hp,RW,hst⟩:=hop;have hmb:dL ⟨qd,qg,.a o',Lu⟩ m=some bk:=by simp[dL,gb,hp]
   rw[FF] at hp;obtain⟨obj,hrun,zg,hf⟩:=Ag (H0:=H0) (w:=w) j.env hc hp;have hid:DS D l tr h' (dg S i) (aC tr h' i).next:=by
    refine(jN u.lt _).2 (.inr ⟨Nat.le_refl _,?_⟩);rw[hst];simp
   have hja:=j.alloc R u hmb (obj:=obj) (fun ρ' D' h1 h2=>zg ρ' D' h1 h2 j.inv.low) (by rw[RW];exact hf _ _ hid);have:=hk _ _ _ _ hcan hja;refine gj hc ?_;rw[hrun (aC tr h' i).next _ (bM _ _ _),←RW];show K (a.put o.dst _) _;rw[←lu];exact this
  |bad=>exact hop.elim
  |e o'=>exact xp rfl
  |call=>exact xp rfl
  |invoke s=>exact xp rfl
  |panic=>exact xp rfl
theorem Gj(R:Rg P H0 D N l bs e h tr e' h'){os:Array Oper}(hos:os.toList.map (bE P os)=l)(vz:kA bs os.toList=true)
  (ri:cz (cA l tr h') l ((List.range l.length).map (kj bs l (bZ l))) tr){Q:Exit→Act→World→Prop}
  (hQ:∀ρ' a' w',Inv P H0 ρ' (grow D h.next h'.next) h' w'→Ext qM D h w0 ρ' h' w'→bG ρ' (grow D h.next h'.next) N e' a'→a'.defers=a0.defers→Q .normal a' w'):
  ∀(fuel:Nat) (listed:Array Bool) (c:Nat) (ρ:cG) (a:Act) (w:World),listed.size=os.size→c∈0::(bZ l).map (· +1)→
   J P H0 D N l bs e h tr h' qM w0 a0 (fun j=>listed.getD j false) c ρ a w→os.size≤fuel+cnt (fun j=>listed.getD j false) os.size→
   wpAnyIn (FW ro) n P .any os Q fuel listed a w:=by
 have hlen:l.length=os.size:=by rw[←hos];simp
 intro fuel;induction fuel with
 |zero=>
  intro listed c ρ a w hsz hcan hj Oj;have hall:∀k,k<os.size→listed.getD k false=true:=Az (fun j=>listed.getD j false) os.size (by omega);refine⟨?_,?_⟩
  ·rw[List.eq_nil_iff_forall_not_mem];intro i hi;obtain⟨h1,o,ho,_⟩:=mem_ready.1 hi;have hlt:=(Array.getElem?_eq_some_iff.1 ho).1;have:=hall i hlt;simp[Array.getD_eq_getD_getElem?,hsz,hlt] at h1 this;rw[h1] at this;simp at this
  ·obtain⟨g1,g2,g3,g4⟩:=hj.finish R (fun k hk=>hall k (by omega));exact hQ ρ a w g1 g2 g3 g4
 |succ fuel ih=>
  intro listed c ρ a w hsz hcan hj Oj;refine⟨fun hr=>?_,fun i hi=>?_⟩
  ·
   have hall:∀k,k<os.size→listed.getD k false=true:=by
    intro k;induction k using Nat.strongRecOn with
    |_ k OX=>
     intro hk;cases hs:listed.getD k false with
     |true=>rfl
     |false=>
      have hmem:k∈Region.ready .any os listed:=by
       rw[mem_ready];refine⟨by simp[Array.getD_eq_getD_getElem?,hsz,hk] at hs⊢;exact hs,os[k],by simp[hk],fun ed vA hb=>?_⟩;have hlt:=(iH vz (i:=k) (o:=os[k]) (by simp[hk])).2.1 ed (by simpa using vA) hb;exact OX ed.on hlt (by omega)
      rw[hr] at hmem;simp at hmem
   obtain⟨g1,g2,g3,g4⟩:=hj.finish R (fun k hk=>hall k (by omega));exact hQ ρ a w g1 g2 g3 g4
  ·obtain⟨h1,o,ho,tq⟩:=mem_ready.1 hi;have hlt:=(Array.getElem?_eq_some_iff.1 ho).1;have hsi:listed.getD i false=false:=by
    simp[Array.getD_eq_getD_getElem?,hsz,hlt] at h1⊢;exact h1
   have hS:(fun j=>(listed.setIfInBounds i true).getD j false)=dg (fun j=>listed.getD j false) i:=by
    funext k
    by_cases hk:k=i
    ·subst hk;simp[dg,Array.getD_eq_getD_getElem?,hsz,hlt]
    ·simp only[dg,hk,decide_false,Bool.or_false];exact getD_set_ne false (fun e=>hk e.symm)
   refine xQ R (fun i o ho _=>by rw[←hos,List.getElem?_map];simp[ho]) (by omega) (by omega) vz ri hj hcan ho hsi ?_ ?_
   ·intro k hb;obtain⟨ed,vA,xZ,gb⟩:=(iH vz (i:=i) (o:=o) (by simpa using ho)).1 k hb;have:=tq ed (by simpa using vA) xZ;rcases gb with rfl|gb
    ·exact this
    ·exact hj.closed _ this k gb
   ·intro c' ρ' a' w' jC hj';refine ih (listed.setIfInBounds i true) c' ρ' a' w' (by simp[hsz]) jC (by rw[hS];exact hj') ?_;rw[hS,s8 (S:=fun j=>listed.getD j false) hsi];simp only[hlt,decide_true,cond_true];omega
end
section
variable {P:Program} {H0:Nat} {e e':Env} {h h':Heap} {rd:Bool}
theorem Iq(Ov:P.follows .mixedOrders=true){l:List bp}{win:List (List Nat)}{tr:List aK}(j8:OT P H0 l e h tr e' h')(A5:lF l win tr h'):
  bD P H0 rd (.bI l win) e h .normal e' h':=by
 refine cL fun code hs hc N hN ro hro ρ D w a W0 n tl hi he hm hW=>?_;obtain⟨idr,os,rfl,hos,tB,vB,rfl⟩:=qF hs hc;have R:Rg P H0 D N l (nv os) e h tr e' h':=⟨j8,j8.tN hos hN hi he,hi.lt,vY tB,hN⟩;refine wpIn_region_any Ov ?_;have hi':Inv P H0 ρ D h {w with drawn:=w.drawn+1}:=by
  refine⟨hi.lt,hi.top,hi.low,fun b x hb hx=>?_,hi.apart⟩;exact bR (hi.bH b x hb hx) (fun _=>id) (fun _ _=>rfl) rfl
 have hS:(fun j=>(Array.replicate os.size false).getD j false)=fun _=>false:=by
  funext k
  simp[Array.getD_eq_getD_getElem?,Array.getElem?_replicate];split<;>simp
 have hst:=J.start R hi' he;rw[←hS] at hst;refine Gj R hos vB A5 ?_ os.size _ 0 _ a _ (by simp) (by simp) hst (by omega);intro ρ' a' w' g1 g2 g3 g4;have Qa:Ext ρ D h w ρ' h' w':=⟨g2.next,g2.bA,g2.size,g2.frame,g2.iz,g2.old,g2.fresh,g2.tape,g2.os,g2.output⟩;exact⟨ρ',rfl,g1,Qa,g3,by rw[g4];exact hm.ext hi.lt Qa,fun _=>g4⟩
theorem Cn{bs:List Nat}{os:List Oper}(hp:kA bs os=true){i:Nat}{o:Oper}(ho:os[i]?=some o){j:Nat}{ed:Edge}(vz:ed∈o.after.toList)(hb:Region.binds .any ed=true)(hj:ed.on=j∨oB bs ed.on j):oB bs i j:=by
 have h1:=kY hp ho;simp only[Nat.zero_add,Bool.and_eq_true,decide_eq_true_eq] at h1;have h2:=Nat.eq_of_beq_eq_true h1.2;unfold oB at*;rw[h2,tj (fun ed=>Region.binds .any ed) (fun ed=>bs.getD ed.on 0) (fun ed=>ed.on) j o.after.toList 0,Nat.zero_testBit,Bool.false_or,List.any_eq_true];refine⟨ed,vz,?_⟩;rcases hj with hj|hj
 ·simp[hb,hj]
 ·simp only[hb,hj,Bool.or_true,Bool.and_self]
theorem Ez{bs:List Nat}{os:List Oper}(hp:kA bs os=true):∀(i:Nat),i<os.length→∀{k j:Nat},oB bs i k→oB bs k j→oB bs i j:=by
 intro i;induction i using Nat.strongRecOn with
 |_ i ih=>
  intro hi k j hk hj;have ho:os[i]?=some os[i]:=List.getElem?_eq_getElem hi;obtain⟨ed,h1,h2,h3⟩:=(iH hp ho).1 k hk;have hlt:=(iH hp ho).2.1 ed h1 h2;refine Cn hp ho h1 h2 (.inr ?_);rcases h3 with h3|h3
  ·rw[h3];exact hj
  ·exact ih ed.on hlt (by omega) h3 hj
theorem ye{y:bp}:∀{r:List bp},linked y r=true→∃(k:Nat) (z:bp),r[k]?=some z∧((bS y.op=true∧bS z.op=true)∨nu y z=false)
 |[],h=>by simp[linked] at h
 |z::r,h=>by
  simp only[linked,Bool.or_eq_true,Bool.and_eq_true,Bool.not_eq_true'] at h;rcases h with(h|h)|h
  ·exact⟨0,z,rfl,.inl h⟩
  ·exact⟨0,z,rfl,.inr h⟩
  ·obtain⟨k,z',h1,h2⟩:=ye h;exact⟨k+1,z',h1,h2⟩
theorem yc:∀{l:List bp},lB l=true→∀{j:Nat} {y:bp},l[j]?=some y→j+1<l.length→∃(k:Nat) (z:bp),j<k∧l[k]?=some z∧((bS y.op=true∧bS z.op=true)∨nu y z=false)
 |[],_,j,y,hy,hlt=>by simp at hlt
 |[_],_,j,y,hy,hlt=>by simp at hlt
 |y0::z0::r,h,j,y,hy,hlt=>by
  simp only[lB,Bool.and_eq_true] at h;cases j with
  |zero=>
   simp only[List.getElem?_cons_zero,Option.some.injEq] at hy;subst hy;obtain⟨k,z,h1,h2⟩:=ye h.1;exact⟨k+1,z,by omega,by rw[List.getElem?_cons_succ];exact h1,h2⟩
  |succ j=>
   rw[List.getElem?_cons_succ] at hy;obtain⟨k,z,h1,h2,h3⟩:=yc h.2 hy (by simp only[List.length_cons] at hlt⊢;omega);exact⟨k+1,z,by omega,by rw[List.getElem?_cons_succ];exact h2,h3⟩
theorem HB{bs:List Nat}{os:List Oper}{l:List bp}(tB:uL bs l=true)(vz:kA bs os=true)(hlen:os.length=l.length)(hl:lB l=true){n:Nat}(hn:n+1=l.length):
  ∀(d j:Nat),j+d=n→j<n→oB bs n j:=by
 intro d;induction d using Nat.strongRecOn with
 |_ d ih=>
  intro j hd hj;have hy:l[j]?=some l[j]:=List.getElem?_eq_getElem (by omega);obtain⟨k,z,h1,h2,h3⟩:=yc hl hy (by omega);have hk:=(List.getElem?_eq_some_iff.1 h2).1;have hb:oB bs k j:=by
   rcases vY tB j k _ _ h1 hy h2 with hb|⟨oA,gn⟩
   ·exact hb
   ·rcases h3 with h3|h3
    ·exact absurd h3 oA
    ·rw[h3] at gn;simp at gn
  by_cases hkn:k=n
  ·rw[←hkn];exact hb
  ·have:=ih (n-k) (by omega) k (by omega) (by omega);exact Ez vz n (by omega) this hb
theorem BO{bs:List Nat}{l1:List bp}{i0:bp}(xp:bS i0.op=true)(AQ:∀j,j<l1.length→¬oB bs j l1.length)(hb:∀j,j<l1.length→oB bs l1.length j):
  ((List.range (l1++[i0]).length).map (kj bs (l1++[i0]) (bZ (l1++[i0])))).take l1.length=(List.range l1.length).map (kj bs l1 (bZ l1)):=by
 have RC:bZ (l1++[i0])=bZ l1++[l1.length]:=by
  unfold bZ;rw[List.length_append,List.length_singleton,List.range_succ,List.filter_append]
  congr 1
  ·refine List.filter_congr fun k hk=>?_;rw[List.mem_range] at hk;rw[List.getElem?_append_left hk]
  ·simp[xp]
 rw[←List.map_take,List.length_append,List.length_singleton,List.take_range,Nat.min_eq_left (by omega)];refine List.map_congr_left fun j hj=>?_;rw[List.mem_range] at hj;have Rv:oM bs (l1++[i0]) (bZ l1++[l1.length]) j=oM bs l1 (bZ l1) j:=by
  unfold oM;rw[List.map_append,←List.cons_append,List.filter_append];have h1:List.filter (ue bs (bZ l1++[l1.length]) j) (0::(bZ l1).map (· +1))=List.filter (ue bs (bZ l1) j) (0::(bZ l1).map (· +1)):=by
   refine List.filter_congr fun c hc=>?_;have ju:c≤l1.length:=by
    rcases List.mem_cons.1 hc with rfl|hc
    ·omega
    ·obtain⟨p,hp,rfl⟩:=List.mem_map.1 hc;obtain⟨y,hy,_⟩:=jG.1 hp;exact(List.getElem?_eq_some_iff.1 hy).1
   have hf:(bs.getD j 0).testBit l1.length=false:=by
    have:=AQ j hj;unfold oB at this;simpa using this
   unfold ue;rw[List.all_append];simp only[List.all_cons,List.all_nil,hf,Bool.not_false,Bool.true_or,Bool.true_and,Bool.and_true,show¬(l1.length<c) by omega,decide_false,Bool.or_true]
  have h2:List.filter (ue bs (bZ l1++[l1.length]) j) (List.map (· +1) [l1.length])=[]:=by
   have Xw:(bs.getD l1.length 0).testBit j=true:=hb j hj;have:ue bs (bZ l1++[l1.length]) j (l1.length+1)=false:=by
    unfold ue;rw[List.all_append];simp only[List.all_cons,List.all_nil,Xw,Bool.not_true,Bool.false_or,Bool.and_true,Nat.lt_succ_self,decide_true,Bool.not_true,Bool.and_false]
   simp[this]
  rw[h1,h2,List.append_nil]
 unfold kj;rw[RC,List.getElem?_append_left hj];cases l1[j]? with
 |none=>rfl
 |some x=>simp only[Rv]
theorem EH{D:Dom}{N n:Nat}{l1:List bp}{i0:bp}{bs:List Nat}{tr:List aK}{qM:cG}{w0:World}{a0:Act}{ro:Option Nat}{v:AV}{h2:Heap}(R:Rg P H0 D N l1 bs e h tr e' h'){os:Array Oper}(hos:os.toList.map (bE P os)=l1++[i0])(vz:kA bs os.toList=true)
  (ri:cz (cA l1 tr h') l1 ((List.range l1.length).map (kj bs l1 (bZ l1))) tr)(hb:∀j,j<l1.length→oB bs l1.length j)(hw0:bO i0 e'=true)(hnb:i0.op≠.bad)(hop:mo P H0 i0.op (i0.args.map e'.ev) h' v h2)
  {Q:Exit→Act→World→Prop}
  (hQ:∀ρ' a' w',Inv P H0 ρ' (grow D h.next h2.next) h2 w'→Ext qM D h w0 ρ' h2 w'→bG ρ' (grow D h.next h2.next) N e' a'→a'.defers=a0.defers→v.aW (grow D h.next h2.next)→Q (.panic [{v:=real ρ' v,recovered:=false}]) a' w'):
  ∀(fuel:Nat) (listed:Array Bool) (c:Nat) (ρ:cG) (a:Act) (w:World),listed.size=os.size→c∈0::(bZ l1).map (· +1)→listed.getD l1.length false=false→
   J P H0 D N l1 bs e h tr h' qM w0 a0 (fun j=>listed.getD j false) c ρ a w→os.size≤fuel+cnt (fun j=>listed.getD j false) os.size→
   wpAnyIn (FW ro) n P .any os Q fuel listed a w:=by
 have hlen:os.size=l1.length+1:=by have h:=congrArg List.length hos;simpa using h
 have hnot:∀(S:Nat→Bool),S l1.length=false→cnt S os.size≤l1.length:=by
  intro S hS;rw[hlen];simp only[cnt,hS,cond_false];exact Ci S _
 have xY:∀i o,os[i]?=some o→(l1++[i0])[i]?=some (bE P os o):=fun i o ho=>by rw[←hos,List.getElem?_map,Array.getElem?_toList,ho];rfl
 intro fuel;induction fuel with
 |zero=>
  intro listed c ρ a w hsz hcan Ae hj Oj;have:=hnot (fun j=>listed.getD j false) Ae;omega
 |succ fuel ih=>
  intro listed c ρ a w hsz hcan Ae hj Oj;refine⟨fun hr=>?_,fun i hi=>?_⟩
  ·exfalso;have hall:∀k,k<os.size→listed.getD k false=true:=by
    intro k;induction k using Nat.strongRecOn with
    |_ k OX=>
     intro hk;cases hs:listed.getD k false with
     |true=>rfl
     |false=>
      have hmem:k∈Region.ready .any os listed:=by
       rw[mem_ready];refine⟨by simp[Array.getD_eq_getD_getElem?,hsz,hk] at hs⊢;exact hs,os[k],by simp[hk],fun ed vA hb=>?_⟩;have hlt:=(iH vz (i:=k) (o:=os[k]) (by simp[hk])).2.1 ed (by simpa using vA) hb;exact OX ed.on hlt (by omega)
      rw[hr] at hmem;simp at hmem
   rw[hall l1.length (by omega)] at Ae;simp at Ae
  ·obtain⟨h1,o,ho,tq⟩:=mem_ready.1 hi;have hlt:=(Array.getElem?_eq_some_iff.1 ho).1;have hsi:listed.getD i false=false:=by
    simp[Array.getD_eq_getD_getElem?,hsz,hlt] at h1⊢;exact h1
   have hS:(fun j=>(listed.setIfInBounds i true).getD j false)=dg (fun j=>listed.getD j false) i:=by
    funext k
    by_cases hk:k=i
    ·subst hk;simp[dg,Array.getD_eq_getD_getElem?,hsz,hlt]
    ·simp only[dg,hk,decide_false,Bool.or_false];exact getD_set_ne false (fun e=>hk e.symm)
   by_cases RL:i<l1.length
   ·refine xQ R (fun i o ho hi=>by have hh:=xY i o ho;rw[List.getElem?_append_left hi] at hh;exact hh) (by omega) RL vz ri hj hcan ho hsi ?_ ?_
    ·intro k hb;obtain⟨ed,vA,xZ,gb⟩:=(iH vz (i:=i) (o:=o) (by simpa using ho)).1 k hb;have:=tq ed (by simpa using vA) xZ;rcases gb with rfl|gb
     ·exact this
     ·exact hj.closed _ this k gb
    ·intro c' ρ' a' w' jC hj';refine ih (listed.setIfInBounds i true) c' ρ' a' w' (by simp[hsz]) jC (by rw[getD_set_ne false (by omega)];exact Ae) (by rw[hS];exact hj') ?_;rw[hS,s8 (S:=fun j=>listed.getD j false) hsi];simp only[hlt,decide_true,cond_true];omega
   ·have hin:i=l1.length:=by omega
    subst hin;have hall:∀k,k<l1.length→listed.getD k false=true:=by
     intro k hk;obtain⟨ed,vA,xZ,gb⟩:=(iH vz (i:=l1.length) (o:=o) (by simpa using ho)).1 k (hb k hk);have:=tq ed (by simpa using vA) xZ;rcases gb with rfl|gb
     ·exact this
     ·exact hj.closed _ this k gb
    obtain⟨g1,g2,g3,g4⟩:=hj.finish R hall;have Zw:bE P os o=i0:=by
     have:=xY _ o ho;rw[List.getElem?_append_right (Nat.le_refl _)] at this;simpa using this.symm
    have gp:=dV Zw (.inl hnb) g3;have hc:=((cN Zw).2 (.inl hnb)).1;unfold wpOpIn;rw[ho];simp only;rw[if_pos (by rw[gp,hw0])];refine hop o i0.args hc ρ _ w a N e' ro n g1 g3 rfl _ _ ?_;intro ρ' w' k1 k2 k3;have Oy:=g2.next;have hn2:=k2.next;have k4:=g3.mono (ρ':=ρ') (D':=grow (grow D h.next h'.next) h'.next h2.next) k2.bA (fun _=>.inl);rw[dH D Oy hn2] at k1 k3 k4;exact hQ ρ' a w' k1 (Ext.trans R.Jr g2 k2) k4 g4 k3
theorem Fk(Ov:P.follows .mixedOrders=true){l1:List bp}{i0:bp}{win:List (List Nat)}{tr:List aK}{v:AV}{h2:Heap}(j8:OT P H0 l1 e h tr e' h')(A5:lF l1 (win.take l1.length) tr h')(mR:lB (l1++[i0])=true)(xp:bS i0.op=true)
  (hw0:bO i0 e'=true)(hop:i0.op≠.bad∧mo P H0 i0.op (i0.args.map e'.ev) h' v h2):bD P H0 rd (.bI (l1++[i0]) win) e h (.panic v) e' h2:=by
 refine cL fun code hs hc N hN ro hro ρ D w a W0 n tl hi he hm hW=>?_;obtain⟨idr,os,rfl,hos,tB,vB,rfl⟩:=qF hs hc;have Qh:cY N (l1++[i0])=true:=hN;rw[qc,Bool.and_eq_true] at Qh;have hlen:os.size=l1.length+1:=by have:=congrArg List.length hos;simpa using this
 have hb:=fun j hj=>HB tB vB (by simpa using hlen) mR (n:=l1.length) (by simp) (l1.length-j) j (by omega) hj;have AQ:∀j,j<l1.length→¬oB (nv os) j l1.length:=by
  intro j hj Xw;have:=(iH vB (i:=j) (o:=os.toList[j]'(by simp;omega)) (List.getElem?_eq_getElem _)).2.2 _ Xw;omega
 rw[BO xp AQ hb] at A5;have hpre:(os.toList.take l1.length).map (bE P os)=l1:=by rw[List.map_take,hos];simp
 have R:Rg P H0 D N l1 (nv os) e h tr e' h':=⟨j8,j8.tN hpre Qh.1 hi he,hi.lt,fun i j x y hij hx hy=>vY tB i j x y hij (by rw[List.getElem?_append_left (List.getElem?_eq_some_iff.1 hx).1];exact hx) (by rw[List.getElem?_append_left (List.getElem?_eq_some_iff.1 hy).1];exact hy),Qh.1⟩;refine wpIn_region_any Ov ?_;have hi':Inv P H0 ρ D h {w with drawn:=w.drawn+1}:=by
  refine⟨hi.lt,hi.top,hi.low,fun b x hb hx=>?_,hi.apart⟩;exact bR (hi.bH b x hb hx) (fun _=>id) (fun _ _=>rfl) rfl
 have hS:(fun j=>(Array.replicate os.size false).getD j false)=fun _=>false:=by
  funext k
  simp[Array.getD_eq_getD_getElem?,Array.getElem?_replicate];split<;>simp
 have hst:=J.start R hi' he;rw[←hS] at hst;refine EH R hos vB A5 hb hw0 hop.1 hop.2 ?_ os.size _ 0 _ a _ (by simp) (by simp) (congrFun hS _) hst (by omega);intro ρ' a' w' g1 g2 g3 g4 g5;have Qa:Ext ρ D h w ρ' h2 w':=⟨g2.next,g2.bA,g2.size,g2.frame,g2.iz,g2.old,g2.fresh,g2.tape,g2.os,g2.output⟩;exact⟨ρ',⟨rfl,g5⟩,g1,Qa,g3,by rw[g4];exact hm.ext hi.lt Qa,fun _=>g4⟩
end
end Ads
end Go.Proofs.YtmnolnoeibhjgaaGreat
