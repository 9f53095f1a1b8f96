/-
  Regions that draw their order mean what they mean in the text's order.
  Regions that draw their order mean what they mean in the text's order: the induction.
-/
import Derived.Test.YtnlcabhfkpafmaaGreatAdsDrawX
import Derived.Test.YtnlcabhfkpafmaaGreatAdsCode
set_option linter.unusedSimpArgs false
set_option linter.unusedVariables false
namespace Go.Proofs.YtnlcabhfkpafmaaGreat
namespace Ads
section
variable {P:Program} {H0:Nat} {D:Dom} {N:Nat} {l:List bu} {bs:List Nat} {e:Env} {h:Heap} {tr:List aJ} {e':Env} {h':Heap}
 {ru:cI} {w0:World} {a0:Act} {S:Nat→Bool} {c:Nat} {ρ:cI} {a:Act} {w:World} {i:Nat} {x:bu} {m:aJ} {ro:Option Nat} {n:Nat} {rd:Bool}
theorem lU{α:Type}{f:Nat→α→Bool}:∀{l:List α} {k:Nat},tI f k l=true→∀{i:Nat} {x:α},l[i]?=some x→f (k+i) x=true
 |[],k,h,i,x,hx=>by simp at hx
 |y::l,k,h,i,x,hx=>by
  simp only[tI] at h;cases hf:f k y with
  |false=>rw[hf] at h;simp at h
  |true=>
   rw[hf] at h;cases i with
   |zero=>simp at hx;subst hx;exact hf
   |succ i=>
    simp at hx;have:=lU (k:=k+1) h hx
    rwa [show k+1+i=k+(i+1) by omega] at this
theorem wM(hp:vo bs l=true)(i j:Nat)(x y:bu)(hij:i<j)(hx:l[i]?=some x)(hy:l[j]?=some y):oU bs j i∨(¬(bP x.op=true∧bP y.op=true)∧nR x y=true):=by
 have h1:=lU hp hy;have h2:=lU h1 hx;simp only[Nat.zero_add,Bool.or_eq_true,decide_eq_true_eq,Bool.and_eq_true,Bool.not_eq_true',Bool.and_eq_false_iff] at h2;rcases h2 with(h2|h2)|h2
 ·omega
 ·exact .inl h2
 ·refine .inr ⟨?_,h2.2⟩;rintro⟨g1,g2⟩;rcases h2.1 with h3|h3
  ·rw[g1] at h3;simp at h3
  ·rw[g2] at h3;simp at h3
theorem tU{β:Type}(b:β→Bool)(g:β→Nat)(k:β→Nat)(j:Nat):∀(L:List β) (s:Nat),
  (L.foldl (fun s e=>cond (b e) (s|||2^k e|||g e) s) s).testBit j=(s.testBit j||L.any fun e=>b e&&(decide (k e=j)||(g e).testBit j))
 |[],s=>by simp
 |e::L,s=>by
  rw[List.foldl_cons,tU b g k j L];cases hb:b e
  ·simp[hb]
  ·simp[hb,Nat.testBit_or,Nat.testBit_two_pow,Bool.or_assoc]
theorem iM{os:List Oper}(hp:lf bs os=true){i:Nat}{o:Oper}(ho:os[i]?=some o):
  (∀j,oU bs i j→∃ed∈o.after.toList,Region.binds .any ed=true∧(ed.on=j∨oU bs ed.on j))∧(∀ed∈o.after.toList,Region.binds .any ed=true→ed.on<i)∧∀j,oU bs i j→j<i:=by
 have h1:=lU hp ho;simp only[Nat.zero_add,Bool.and_eq_true,decide_eq_true_eq] at h1;have h2:=Nat.eq_of_beq_eq_true h1.2;have hlt:∀j,oU bs i j→j<i:=by
  intro j hb;rcases Nat.lt_or_ge j i with hj|hj
  ·exact hj
  ·have:(bs.getD i 0).testBit j=false:=Nat.testBit_lt_two_pow (Nat.lt_of_lt_of_le h1.1 (Nat.pow_le_pow_right (by omega) hj));unfold oU at hb;rw[this] at hb;simp at hb
 have Uq:∀j,(bs.getD i 0).testBit j=o.after.toList.any fun ed=>Region.binds .any ed&&(decide (ed.on=j)||(bs.getD ed.on 0).testBit j):=by
  intro j;rw[h2,tU (fun ed=>Region.binds .any ed) (fun ed=>bs.getD ed.on 0) (fun ed=>ed.on) j o.after.toList 0];simp
 refine⟨fun j hb=>?_,fun ed vY yK=>?_,hlt⟩
 ·unfold oU at hb;rw[Uq,List.any_eq_true] at hb;obtain⟨ed,vY,hb⟩:=hb;simp only[Bool.and_eq_true,Bool.or_eq_true,decide_eq_true_eq] at hb;exact⟨ed,vY,hb.1,hb.2⟩
 ·refine hlt _ ?_;unfold oU;rw[Uq,List.any_eq_true];exact⟨ed,vY,by simp[yK]⟩
theorem qW{code:Code}{win:List (List Nat)}(hs:dj code=false)(hc:aB P code=.cB l win):∃id os,code=.region id os true∧os.toList.map (bF P os)=l∧
  vo (nS os) l=true∧lf (nS os) os.toList=true∧win=(List.range l.length).map (kQ (nS os) l (b8 l)):=by
 cases code<;>simp[aB,dj] at hc hs
 case region id os draw=>
  unfold gT at hc;simp only at hc;cases draw with
  |false=>simp at hc
  |true=>
   simp only[Bool.not_true,Bool.false_eq_true,if_false] at hc;split at hc
   ·rename_i oO;simp only[AC.cB.injEq] at hc;simp only[Bool.and_eq_true] at oO;obtain⟨rfl,rfl⟩:=hc;exact⟨id,os,rfl,rfl,oO.1,oO.2,rfl⟩
   ·simp at hc
 case cond c x y=>split at hc<;>simp at hc
 case rangeFunc f ps x y=>split at hc<;>simp at hc
def cnt(S:Nat→Bool):Nat→Nat
 |0=>0
 |n+1=>cnt S n+cond (S n) 1 0
theorem CS(S:Nat→Bool):∀n,cnt S n≤n
 |0=>Nat.le_refl _
 |n+1=>by have:=CS S n;simp only[cnt];cases S n<;>simp<;>omega
theorem Bd(S:Nat→Bool):∀n,n≤cnt S n→∀j,j<n→S j=true
 |0,_,j,hj=>by omega
 |n+1,h,j,hj=>by
  simp only[cnt] at h;have:=CS S n;cases hs:S n with
  |false=>rw[hs] at h;simp at h;omega
  |true=>
   rw[hs] at h;simp at h;by_cases hjn:j=n
   ·subst hjn;exact hs
   ·exact Bd S n (by omega) j (by omega)
theorem tN(hs:S i=false):∀n,cnt (dy S i) n=cnt S n+cond (decide (i<n)) 1 0
 |0=>by simp[cnt]
 |n+1=>by
  simp only[cnt];rw[tN hs n];by_cases hin:n=i
  ·subst hin;simp[dy,hs]
  ·have:dy S i n=S n:=by simp[dy,hin]
   rw[this];by_cases hlt:i<n
   ·simp[hlt,show i<n+1 by omega];omega
   ·simp[hlt,show¬i<n+1 by omega]
theorem j5{p:Nat}:p∈b8 l↔∃x,l[p]?=some x∧bP x.op=true:=by
 unfold b8;rw[List.mem_filter,List.mem_range];cases hx:l[p]? with
 |none=>simp[List.getElem?_eq_none_iff.1 hx]
 |some x=>simp[(List.getElem?_eq_some_iff.1 hx).1]
theorem uN{u:Nat→Heap}:∀{l:List bu} {win:List (List Nat)} {tr:List aJ},cz u l win tr→∀{i:Nat} {x:bu} {cs:List Nat} {m:aJ} {o:Cy},l[i]?=some x→win[i]?=some cs→tr[i]?=some m→
  x.op=.r o→m.on=true→∀c∈cs,rI o m.vals (u c)=some m.v
 |[],win,tr,h,i,x,cs,m,o,hx,hw,hm,ho,fI=>by simp at hx
 |y::l,[],tr,h,i,x,cs,m,o,hx,hw,hm,ho,fI=>by simp at hw
 |y::l,ds::win,[],h,i,x,cs,m,o,hx,hw,hm,ho,fI=>by simp at hm
 |y::l,ds::win,q::tr,h,i,x,cs,m,o,hx,hw,hm,ho,fI=>by
  simp only[cz] at h;cases i with
  |zero=>
   simp at hx hw hm;subst hx hw hm;have:=h.1;rw[ho] at this;exact this fI
  |succ i=>
   simp at hx hw hm;exact uN h.2 hx hw hm ho fI
theorem Cp(l:List bu):∀i:Nat,∃ct,ct∈0::(b8 l).map (· +1)∧ct≤i∧∀p,p∈b8 l→p<i→p<ct
 |0=>⟨0,by simp,Nat.le_refl _,fun p _ h=>by omega⟩
 |i+1=>by
  obtain⟨ct,h1,h2,h3⟩:=Cp l i;by_cases hi:i∈b8 l
  ·exact⟨i+1,List.mem_cons_of_mem _ (List.mem_map.2 ⟨i,hi,rfl⟩),Nat.le_refl _,fun p _ h=>h⟩
  ·refine⟨ct,h1,by omega,fun p hp hlt=>h3 p hp ?_⟩;rcases Nat.lt_or_ge p i with h|h
   ·exact h
   ·have:p=i:=by omega
    subst this;exact absurd hp hi
theorem J.read(R:Rg P H0 D N l bs e h tr e' h')(j:J P H0 D N l bs e h tr h' ru w0 a0 S c ρ a w)(u:Up bs l tr S i x m){o:Cy}(ho:x.op=.r o)(fI:m.on=true)
  (NH:∀j,oU bs i j→j<i)(U0:∀p,p∈b8 l→oU bs p i→i<p)(hcan:c∈0::(b8 l).map (· +1))
  (rP:cz (cC l tr h') l ((List.range l.length).map (kQ bs l (b8 l))) tr)(hr:rI o m.vals (au tr h' i)=some m.v):rI o m.vals (cC l tr h' c)=some m.v:=by
 have hmay:∀c,c∈0::(b8 l).map (· +1)→(∀p,p∈b8 l→oU bs i p→p<c)→(∀p,p∈b8 l→oU bs p i→¬p<c)→c∈o8 bs l (b8 l) i:=by
  intro c hc h1 h2;unfold o8;rw[List.mem_filter];refine⟨hc,?_⟩;unfold uK;rw[List.all_eq_true];intro p hp;simp only[Bool.and_eq_true,Bool.or_eq_true,Bool.not_eq_true',decide_eq_true_eq,decide_eq_false_iff_not];constructor
  ·cases hb:(bs.getD i 0).testBit p with
   |false=>exact .inl rfl
   |true=>exact .inr (h1 p hp hb)
  ·cases hb:(bs.getD p 0).testBit i with
   |false=>exact .inl rfl
   |true=>exact .inr (h2 p hp hb)
 have hc:c∈o8 bs l (b8 l) i:=by
  refine hmay c hcan (fun p hp hb=>?_) (fun p hp hb hlt=>?_)
  ·obtain⟨y,hy,Vc⟩:=j5.1 hp;exact(j.cut p y hy Vc).1 (u.pre p hb)
  ·obtain⟨y,hy,Vc⟩:=j5.1 hp;have:=j.closed p ((j.cut p y hy Vc).2 hlt) i hb;rw[u.hsi] at this;simp at this
 have hw:((List.range l.length).map (kQ bs l (b8 l)))[i]?=some (kQ bs l (b8 l) i):=by
  simp[u.lt]
 have JG:=uN rP u.hx hw u.hm ho fI;by_cases hone:∃c0,o8 bs l (b8 l) i=[c0]
 ·obtain⟨c0,hc0⟩:=hone;obtain⟨ct,k1,k2,k3⟩:=Cp l i;have sv:=hmay ct k1 (fun p hp hb=>k3 p hp (NH p hb)) (fun p hp hb hlt=>by have:=U0 p hp hb;omega);rw[hc0] at hc sv;simp at hc sv;subst sv;have hsame:∀b,(cC l tr h' c).get b=(cC l tr h' i).get b:=by
   intro b;rw[hc];have:=R.uv (c:=ct) b (i-ct) (fun q y hq1 Ls hy=>by
    cases Vc:bP y.op with
    |false=>rfl
    |true=>have:=k3 q (j5.2 ⟨y,hy,Vc⟩) (by omega);omega)
   rwa [show ct+(i-ct)=i by omega] at this
  refine Fq (h:=au tr h' i) ?_ hr;intro b y hy;have hlt:b<(au tr h' i).next:=by
   rcases Nat.lt_or_ge b (au tr h' i).next with hb|hb
   ·exact hb
   ·rw[R.uu.top i b hb] at hy;simp at hy
  rw[hsame b,R.FG hlt];exact hy
 ·refine JG c ?_;unfold kQ;rw[u.hx];simp only[ho,JX,cond_true];split
  ·rename_i q hq;exact absurd ⟨q,hq⟩ hone
  ·exact hc
theorem Inv.Sr{ρ ρ':cI}(j:Inv P H0 ρ D h w)(gG:∀b,D b→ρ' b=ρ b):Inv P H0 ρ' D h w:=
 ⟨j.lt,j.top,j.low,fun b x hb hx=>by rw[gG b hb];exact bO (j.bJ b x hb hx) (fun _=>id) gG rfl,
  fun b b' hb hb' hne hw hx=>by rw[gG b hb,gG b' hb'];exact j.apart b b' hb hb' hne hw hx⟩
theorem J.start(R:Rg P H0 D N l bs e h tr e' h')(hi:Inv P H0 ρ D h w)(he:bI ρ D N e a):
  J P H0 D N l bs e h tr h' ρ w a (fun _=>false) 0 (fun b=>if b<h.next then ρ b else⟨w.heap.size,0,0⟩) a w:=by
 have gG:∀b,D b→(fun b=>if b<h.next then ρ b else⟨w.heap.size,0,0⟩:cI) b=ρ b:=fun b hb=>if_pos (R.Nd b hb);have hds:DS D l tr h' (fun _=>false)=D:=by
  funext b
  simp[DS]
 have hz:=R.ot.zero;have rO:h.next≤h'.next:=by have:=R.le_last 0;rwa [hz] at this
 have hg:∀b,b<h.next→(cC l tr h' 0).get b=h.get b:=by
  intro b hb;rw[R.FG (by rw[hz];exact hb),hz]
 refine⟨fun j x _ _=>by simp,fun j hj=>by simp at hj,?_,?_,?_,?_,rfl⟩
 ·rw[hds];have hi':=hi.Sr gG;refine⟨fun b hb=>Nat.lt_of_lt_of_le (R.Nd b hb) rO,fun b hb=>R.PT hb,hi.low,?_,?_⟩
  ·intro b x hb hx;rw[hg b (R.Nd b hb)] at hx;exact hi'.bJ b x hb hx
  ·intro b b' hb hb' hne hw hx;rw[Heap.jN (hg b (R.Nd b hb))] at hw;rw[hg b' (R.Nd b' hb')] at hx;exact hi'.apart b b' hb hb' hne hw hx
 ·refine⟨rO,gG,Nat.le_refl _,fun _ _ _=>rfl,fun b hb _=>hg b hb,?_,?_,rfl,rfl,rfl⟩
  ·intro b hb hn;rw[hg b hb] at hn;exact⟨hn,fun hw=>(Heap.jN (hg b hb)).symm.trans hw⟩
  ·intro b qP iG;rw[if_neg (by omega)];exact .inl (Nat.le_refl _)
 ·intro j x m bk hx hm hb _;exact R.SB hx hm hb (Nat.zero_le _)
 ·rw[hds];refine(he.mono gG (fun _=>id)).congr ?_;intro d;refine(nu l tr (fun _=>false) 0 d e e rfl R.ot.length (fun j x _ _=>by simp)).trans ?_;cases l<;>cases tr<;>simp[cR]
theorem uM(tr:List aJ)(h':Heap)(lo:Nat):∀(k b:Nat),(au tr h' 0).next≤b→b<(au tr h' k).next→∃j,j<k∧(au tr h' j).next≤b∧b<(au tr h' (j+1)).next
 |0,b,h1,h2=>by omega
 |k+1,b,h1,h2=>by
  by_cases hb:b<(au tr h' k).next
  ·obtain⟨j,g1,g2⟩:=uM tr h' lo k b h1 hb;exact⟨j,by omega,g2⟩
  ·exact⟨k,by omega,by omega,h2⟩
theorem J.finish(R:Rg P H0 D N l bs e h tr e' h')(j:J P H0 D N l bs e h tr h' ru w0 a0 S c ρ a w)(hall:∀k,k<l.length→S k=true):
  Inv P H0 ρ (grow D h.next h'.next) h' w∧Ext ru D h w0 ρ h' w∧bI ρ (grow D h.next h'.next) N e' a∧a.defers=a0.defers:=by
 have Jk:Cut l S l.length:=fun k x hx _=>by
  have:=(List.getElem?_eq_some_iff.1 hx).1;simp[hall k this,this]
 have hg:∀b,h'.get b=(cC l tr h' c).get b:=by
  intro b;rw[R.FF j.cut Jk b];show h'.get b=(fT (l.drop l.length) (tr.drop l.length) (au tr h' l.length).m).get b;rw[R.ot.last (Nat.le_refl _),List.drop_length];simp[fT,Heap.get]
 have hds:DS D l tr h' S=grow D h.next h'.next:=by
  funext b
  rw[eq_iff_iff];constructor
  ·rintro(hb|⟨q,_,_,h1,h2⟩)
   ·exact .inl hb
   ·exact .inr ⟨Nat.le_trans (R.uu.low q) h1,Nat.lt_of_lt_of_le h2 (R.le_last _)⟩
  ·rintro(hb|hb)
   ·exact .inl hb
   ·obtain⟨q,g1,g2,g3⟩:=uM tr h' 0 l.length b (by rw[R.ot.zero];exact hb.1) (by rw[R.ot.last (Nat.le_refl _)];exact hb.2);exact .inr ⟨q,hall q g1,g1,g2,g3⟩
 refine⟨?_,j.ext.congr rfl hg,?_,j.defers⟩
 ·rw[←hds];exact j.inv.congr rfl hg
 ·rw[←hds];refine j.env.congr ?_;intro d;rw[nu l tr S l.length d e e rfl R.ot.length (fun k x hx _=>by
   have:=(List.getElem?_eq_some_iff.1 hx).1;rw[hall k this];simp[this]),tQ R.ot]
end
end Ads
end Go.Proofs.YtnlcabhfkpafmaaGreat
set_option linter.unusedSimpArgs false
set_option linter.unusedVariables false
namespace Go.Proofs.YtnlcabhfkpafmaaGreat
namespace Ads
section
variable {P:Program} {H0:Nat} {D:Dom} {N:Nat} {l:List bu} {bs:List Nat} {e:Env} {h:Heap} {tr:List aJ} {e':Env} {h':Heap}
 {ru:cI} {w0:World} {a0:Act} {c:Nat} {ρ:cI} {a:Act} {w:World} {i:Nat} {x:bu} {m:aJ} {ro:Option Nat} {n:Nat} {rd:Bool}
theorem yA(R:Rg P H0 D N l bs e h tr e' h'){os:Array Oper}(hos:∀i o,os[i]?=some o→i<l.length→l[i]?=some (bF P os o))(hsz:l.length≤os.size)(Jp:i<l.length)(vY:lf bs os.toList=true)
  (rP:cz (cC l tr h') l ((List.range l.length).map (kQ bs l (b8 l))) tr){Q:Exit→Act→World→Prop}{S:Nat→Bool}
  (j:J P H0 D N l bs e h tr h' ru w0 a0 S c ρ a w)(hcan:c∈0::(b8 l).map (· +1)){o:Oper}(ho:os[i]?=some o)(hsi:S i=false)
  (hpre:∀j,oU bs i j→S j=true){K:Act→World→Prop}
  (hk:∀c' ρ' a' w',c'∈0::(b8 l).map (· +1)→J P H0 D N l bs e h tr h' ru w0 a0 (dy S i) c' ρ' a' w'→K a' w'):
  wpOpIn (FW ro) n P os Q i K a w:=by
 have hx:l[i]?=some (bF P os o):=hos i o ho Jp;obtain⟨m,hm,BG,yM,Ut⟩:=R.ot.at hx;have u:Up bs l tr S i (bF P os o) m:=⟨hx,hm,hsi,hpre⟩;have ny:=j.vals R u;have PF:=j.wanted R u;have l8:(bF P os o).dst=o.dst:=(cP rfl).1;have EI:cond (bP (bF P os o).op) (i+1) c∈0::(b8 l).map (· +1):=by
  cases he:bP (bF P os o).op with
  |false=>exact hcan
  |true=>exact List.mem_cons_of_mem _ (List.mem_map.2 ⟨i,j5.2 ⟨_,hx,he⟩,rfl⟩)
 unfold wpOpIn;rw[ho];simp only;rcases Ut with⟨fI,hw,hv,hst⟩|⟨fI,hw,hop⟩
 ·have hg:(bF P os o).guard.isSome=true:=by
   cases hg:(bF P os o).guard with
   |none=>simp[bN,hg] at hw
   |some _=>rfl
  have iO:=ez (P:=P) (ops:=os) rfl (.inr hg) j.env;rw[if_neg (by rw[iO,PF,hw];simp)];refine⟨fun _ _=>trivial,?_⟩;have:=hk _ _ _ _ EI (j.quiet R u hst (by unfold dS;split<;>simp_all) (by rw[hv];simp[AV.undef,AV.aV,bh]));rw[hv,fW,l8] at this;exact this
 ·have hnb:(bF P os o).op≠.bad:=by
   intro hb;rw[hb] at hop;exact hop
  have iO:=ez (P:=P) (ops:=os) rfl (.inl hnb) j.env;have hc:=((cP (P:=P) (ops:=os) (o:=o) rfl).2 (.inl hnb)).1;rw[if_pos (by rw[iO,PF,hw])];have Ry:m.vals=(bF P os o).args.map (fH S l tr e).ev:=by rw[ny];exact yM
  have xP:bP (bF P os o).op=true→o.wpIn (FW ro) n P a w K Q:=by
   intro he;refine j.effect R u he hc l8 yM hop ?_;intro ρ' w' hj;rw[he] at EI;exact hk _ _ _ _ EI hj
  have JF:au tr h' (i+1)=au tr h' i→dS (bF P os o) m=none→bP (bF P os o).op=false→m.v.aV (DS D l tr h' S)→K (a.put o.dst (real ρ m.v)) w:=by
   intro hst hmb he hv;have:=hk _ _ _ _ EI (j.quiet R u hst hmb hv);rw[l8] at this;exact this
  generalize hq:bF P os o=q at*;obtain⟨qd,qg,qop,PO⟩:=q;simp only at*;cases qop with
  |p p=>
   obtain⟨hp,hst⟩:=hop;rw[Ry] at hp;have:=wL (w:=w) j.env hc hp;refine gH hc ?_;rw[this.1];exact JF hst (by simp[dS]) rfl this.2
  |r r=>
   obtain⟨hp,hst⟩:=hop;have vZ:=iM vY (i:=i) (o:=o) (by simpa using ho);have hr:=j.read R u (o:=r) rfl fI vZ.2.2 (fun p ig hb=>by
    obtain⟨y,hy,_⟩:=j5.1 ig;have hlt:p<os.toList.length:=by
     have:=(List.getElem?_eq_some_iff.1 hy).1;rw[Array.length_toList];omega
    exact(iM vY (i:=p) (o:=os.toList[p]) (List.getElem?_eq_getElem hlt)).2.2 i hb) hcan rP hp
   rw[Ry] at hr;have:=Ce j.env j.inv hc hr;refine gH hc ?_;rw[this.1];exact JF hst (by simp[dS]) rfl this.2
  |a o'=>
   obtain⟨bk,f,hp,UT,hst⟩:=hop;have hmb:dS ⟨qd,qg,.a o',PO⟩ m=some bk:=by simp[dS,fI,hp]
   rw[Ry] at hp;obtain⟨obj,hrun,z7,hf⟩:=AO (H0:=H0) (w:=w) j.env hc hp;have hid:DS D l tr h' (dy S i) (au tr h' i).next:=by
    refine(kj u.lt _).2 (.inr ⟨Nat.le_refl _,?_⟩);rw[hst];simp
   have jy:=j.alloc R u hmb (obj:=obj) (fun ρ' D' h1 h2=>z7 ρ' D' h1 h2 j.inv.low) (by rw[UT];exact hf _ _ hid);have:=hk _ _ _ _ hcan jy;refine gH hc ?_;rw[hrun (au tr h' i).next _ (bM _ _ _),←UT];show K (a.put o.dst _) _;rw[←l8];exact this
  |bad=>exact hop.elim
  |e o'=>exact xP rfl
  |call=>exact xP rfl
  |invoke s=>exact xP rfl
  |panic=>exact xP rfl
theorem IF(R:Rg P H0 D N l bs e h tr e' h'){os:Array Oper}(hos:os.toList.map (bF P os)=l)(vY:lf bs os.toList=true)
  (rP:cz (cC l tr h') l ((List.range l.length).map (kQ bs l (b8 l))) tr){Q:Exit→Act→World→Prop}
  (hQ:∀ρ' a' w',Inv P H0 ρ' (grow D h.next h'.next) h' w'→Ext ru D h w0 ρ' h' w'→bI ρ' (grow D h.next h'.next) N e' a'→a'.defers=a0.defers→Q .normal a' w'):
  ∀(fuel:Nat) (listed:Array Bool) (c:Nat) (ρ:cI) (a:Act) (w:World),listed.size=os.size→c∈0::(b8 l).map (· +1)→
   J P H0 D N l bs e h tr h' ru w0 a0 (fun j=>listed.getD j false) c ρ a w→os.size≤fuel+cnt (fun j=>listed.getD j false) os.size→
   wpAnyIn (FW ro) n P .any os Q fuel listed a w:=by
 have hlen:l.length=os.size:=by rw[←hos];simp
 intro fuel;induction fuel with
 |zero=>
  intro listed c ρ a w hsz hcan hj QY;have hall:∀k,k<os.size→listed.getD k false=true:=Bd (fun j=>listed.getD j false) os.size (by omega);refine⟨?_,?_⟩
  ·rw[List.eq_nil_iff_forall_not_mem];intro i hi;obtain⟨h1,o,ho,_⟩:=mem_ready.1 hi;have hlt:=(Array.getElem?_eq_some_iff.1 ho).1;have:=hall i hlt;simp[Array.getD_eq_getD_getElem?,hsz,hlt] at h1 this;rw[h1] at this;simp at this
  ·obtain⟨g1,g2,g3,g4⟩:=hj.finish R (fun k hk=>hall k (by omega));exact hQ ρ a w g1 g2 g3 g4
 |succ fuel ih=>
  intro listed c ρ a w hsz hcan hj QY;refine⟨fun hr=>?_,fun i hi=>?_⟩
  ·
   have hall:∀k,k<os.size→listed.getD k false=true:=by
    intro k;induction k using Nat.strongRecOn with
    |_ k RF=>
     intro hk;cases hs:listed.getD k false with
     |true=>rfl
     |false=>
      have hmem:k∈Region.ready .any os listed:=by
       rw[mem_ready];refine⟨by simp[Array.getD_eq_getD_getElem?,hsz,hk] at hs⊢;exact hs,os[k],by simp[hk],fun ed vZ hb=>?_⟩;have hlt:=(iM vY (i:=k) (o:=os[k]) (by simp[hk])).2.1 ed (by simpa using vZ) hb;exact RF ed.on hlt (by omega)
      rw[hr] at hmem;simp at hmem
   obtain⟨g1,g2,g3,g4⟩:=hj.finish R (fun k hk=>hall k (by omega));exact hQ ρ a w g1 g2 g3 g4
  ·obtain⟨h1,o,ho,tX⟩:=mem_ready.1 hi;have hlt:=(Array.getElem?_eq_some_iff.1 ho).1;have hsi:listed.getD i false=false:=by
    simp[Array.getD_eq_getD_getElem?,hsz,hlt] at h1⊢;exact h1
   have hS:(fun j=>(listed.setIfInBounds i true).getD j false)=dy (fun j=>listed.getD j false) i:=by
    funext k
    by_cases hk:k=i
    ·subst hk;simp[dy,Array.getD_eq_getD_getElem?,hsz,hlt]
    ·simp only[dy,hk,decide_false,Bool.or_false];exact getD_set_ne false (fun e=>hk e.symm)
   refine yA R (fun i o ho _=>by rw[←hos,List.getElem?_map];simp[ho]) (by omega) (by omega) vY rP hj hcan ho hsi ?_ ?_
   ·intro k hb;obtain⟨ed,vZ,yK,fI⟩:=(iM vY (i:=i) (o:=o) (by simpa using ho)).1 k hb;have:=tX ed (by simpa using vZ) yK;rcases fI with rfl|fI
    ·exact this
    ·exact hj.closed _ this k fI
   ·intro c' ρ' a' w' ie hj';refine ih (listed.setIfInBounds i true) c' ρ' a' w' (by simp[hsz]) ie (by rw[hS];exact hj') ?_;rw[hS,tN (S:=fun j=>listed.getD j false) hsi];simp only[hlt,decide_true,cond_true];omega
end
section
variable {P:Program} {H0:Nat} {e e':Env} {h h':Heap} {rd:Bool}
theorem KR(Ra:P.follows .mixedOrders=true){l:List bu}{win:List (List Nat)}{tr:List aJ}(kN:OT P H0 l e h tr e' h')(BI:mq l win tr h'):
  bD P H0 rd (.cB l win) e h .normal e' h':=by
 refine cM fun code hs hc N hN ro hro ρ D w a W0 n tl hi he hm hW=>?_;obtain⟨idr,os,rfl,hos,uc,v7,rfl⟩:=qW hs hc;have R:Rg P H0 D N l (nS os) e h tr e' h':=⟨kN,kN.uu hos hN hi he,hi.lt,wM uc,hN⟩;refine wpIn_region_any Ra ?_;have hi':Inv P H0 ρ D h {w with drawn:=w.drawn+1}:=by
  refine⟨hi.lt,hi.top,hi.low,fun b x hb hx=>?_,hi.apart⟩;exact bO (hi.bJ b x hb hx) (fun _=>id) (fun _ _=>rfl) rfl
 have hS:(fun j=>(Array.replicate os.size false).getD j false)=fun _=>false:=by
  funext k
  simp[Array.getD_eq_getD_getElem?,Array.getElem?_replicate];split<;>simp
 have hst:=J.start R hi' he;rw[←hS] at hst;refine IF R hos v7 BI ?_ os.size _ 0 _ a _ (by simp) (by simp) hst (by omega);intro ρ' a' w' g1 g2 g3 g4;have Pj:Ext ρ D h w ρ' h' w':=⟨g2.next,g2.bA,g2.size,g2.frame,g2.iD,g2.old,g2.fresh,g2.tape,g2.os,g2.output⟩;exact⟨ρ',rfl,g1,Pj,g3,by rw[g4];exact hm.ext hi.lt Pj,fun _=>g4⟩
theorem CX{bs:List Nat}{os:List Oper}(hp:lf bs os=true){i:Nat}{o:Oper}(ho:os[i]?=some o){j:Nat}{ed:Edge}(vY:ed∈o.after.toList)(hb:Region.binds .any ed=true)(hj:ed.on=j∨oU bs ed.on j):oU bs i j:=by
 have h1:=lU hp ho;simp only[Nat.zero_add,Bool.and_eq_true,decide_eq_true_eq] at h1;have h2:=Nat.eq_of_beq_eq_true h1.2;unfold oU at*;rw[h2,tU (fun ed=>Region.binds .any ed) (fun ed=>bs.getD ed.on 0) (fun ed=>ed.on) j o.after.toList 0,Nat.zero_testBit,Bool.false_or,List.any_eq_true];refine⟨ed,vY,?_⟩;rcases hj with hj|hj
 ·simp[hb,hj]
 ·simp only[hb,hj,Bool.or_true,Bool.and_self]
theorem F8{bs:List Nat}{os:List Oper}(hp:lf bs os=true):∀(i:Nat),i<os.length→∀{k j:Nat},oU bs i k→oU bs k j→oU bs i j:=by
 intro i;induction i using Nat.strongRecOn with
 |_ i ih=>
  intro hi k j hk hj;have ho:os[i]?=some os[i]:=List.getElem?_eq_getElem hi;obtain⟨ed,h1,h2,h3⟩:=(iM hp ho).1 k hk;have hlt:=(iM hp ho).2.1 ed h1 h2;refine CX hp ho h1 h2 (.inr ?_);rcases h3 with h3|h3
  ·rw[h3];exact hj
  ·exact ih ed.on hlt (by omega) h3 hj
theorem yU{y:bu}:∀{r:List bu},linked y r=true→∃(k:Nat) (z:bu),r[k]?=some z∧((bP y.op=true∧bP z.op=true)∨nR y z=false)
 |[],h=>by simp[linked] at h
 |z::r,h=>by
  simp only[linked,Bool.or_eq_true,Bool.and_eq_true,Bool.not_eq_true'] at h;rcases h with(h|h)|h
  ·exact⟨0,z,rfl,.inl h⟩
  ·exact⟨0,z,rfl,.inr h⟩
  ·obtain⟨k,z',h1,h2⟩:=yU h;exact⟨k+1,z',h1,h2⟩
theorem yS:∀{l:List bu},oe l=true→∀{j:Nat} {y:bu},l[j]?=some y→j+1<l.length→∃(k:Nat) (z:bu),j<k∧l[k]?=some z∧((bP y.op=true∧bP z.op=true)∨nR y z=false)
 |[],_,j,y,hy,hlt=>by simp at hlt
 |[_],_,j,y,hy,hlt=>by simp at hlt
 |y0::z0::r,h,j,y,hy,hlt=>by
  simp only[oe,Bool.and_eq_true] at h;cases j with
  |zero=>
   simp only[List.getElem?_cons_zero,Option.some.injEq] at hy;subst hy;obtain⟨k,z,h1,h2⟩:=yU h.1;exact⟨k+1,z,by omega,by rw[List.getElem?_cons_succ];exact h1,h2⟩
  |succ j=>
   rw[List.getElem?_cons_succ] at hy;obtain⟨k,z,h1,h2,h3⟩:=yS h.2 hy (by simp only[List.length_cons] at hlt⊢;omega);exact⟨k+1,z,by omega,by rw[List.getElem?_cons_succ];exact h2,h3⟩
theorem J9{bs:List Nat}{os:List Oper}{l:List bu}(uc:vo bs l=true)(vY:lf bs os=true)(hlen:os.length=l.length)(hl:oe l=true){n:Nat}(hn:n+1=l.length):
  ∀(d j:Nat),j+d=n→j<n→oU bs n j:=by
 intro d;induction d using Nat.strongRecOn with
 |_ d ih=>
  intro j hd hj;have hy:l[j]?=some l[j]:=List.getElem?_eq_getElem (by omega);obtain⟨k,z,h1,h2,h3⟩:=yS hl hy (by omega);have hk:=(List.getElem?_eq_some_iff.1 h2).1;have hb:oU bs k j:=by
   rcases wM uc j k _ _ h1 hy h2 with hb|⟨qP,iG⟩
   ·exact hb
   ·rcases h3 with h3|h3
    ·exact absurd h3 qP
    ·rw[h3] at iG;simp at iG
  by_cases hkn:k=n
  ·rw[←hkn];exact hb
  ·have:=ih (n-k) (by omega) k (by omega) (by omega);exact F8 vY n (by omega) this hb
theorem Cu{bs:List Nat}{l1:List bu}{i0:bu}(xP:bP i0.op=true)(Bu:∀j,j<l1.length→¬oU bs j l1.length)(hb:∀j,j<l1.length→oU bs l1.length j):
  ((List.range (l1++[i0]).length).map (kQ bs (l1++[i0]) (b8 (l1++[i0])))).take l1.length=(List.range l1.length).map (kQ bs l1 (b8 l1)):=by
 have UC:b8 (l1++[i0])=b8 l1++[l1.length]:=by
  unfold b8;rw[List.length_append,List.length_singleton,List.range_succ,List.filter_append]
  congr 1
  ·refine List.filter_congr fun k hk=>?_;rw[List.mem_range] at hk;rw[List.getElem?_append_left hk]
  ·simp[xP]
 rw[←List.map_take,List.length_append,List.length_singleton,List.take_range,Nat.min_eq_left (by omega)];refine List.map_congr_left fun j hj=>?_;rw[List.mem_range] at hj;have Uv:o8 bs (l1++[i0]) (b8 l1++[l1.length]) j=o8 bs l1 (b8 l1) j:=by
  unfold o8;rw[List.map_append,←List.cons_append,List.filter_append];have h1:List.filter (uK bs (b8 l1++[l1.length]) j) (0::(b8 l1).map (· +1))=List.filter (uK bs (b8 l1) j) (0::(b8 l1).map (· +1)):=by
   refine List.filter_congr fun c hc=>?_;have kV:c≤l1.length:=by
    rcases List.mem_cons.1 hc with rfl|hc
    ·omega
    ·obtain⟨p,hp,rfl⟩:=List.mem_map.1 hc;obtain⟨y,hy,_⟩:=j5.1 hp;exact(List.getElem?_eq_some_iff.1 hy).1
   have hf:(bs.getD j 0).testBit l1.length=false:=by
    have:=Bu j hj;unfold oU at this;simpa using this
   unfold uK;rw[List.all_append];simp only[List.all_cons,List.all_nil,hf,Bool.not_false,Bool.true_or,Bool.true_and,Bool.and_true,show¬(l1.length<c) by omega,decide_false,Bool.or_true]
  have h2:List.filter (uK bs (b8 l1++[l1.length]) j) (List.map (· +1) [l1.length])=[]:=by
   have ZC:(bs.getD l1.length 0).testBit j=true:=hb j hj;have:uK bs (b8 l1++[l1.length]) j (l1.length+1)=false:=by
    unfold uK;rw[List.all_append];simp only[List.all_cons,List.all_nil,ZC,Bool.not_true,Bool.false_or,Bool.and_true,Nat.lt_succ_self,decide_true,Bool.not_true,Bool.and_false]
   simp[this]
  rw[h1,h2,List.append_nil]
 unfold kQ;rw[UC,List.getElem?_append_left hj];cases l1[j]? with
 |none=>rfl
 |some x=>simp only[Uv]
theorem Gh{D:Dom}{N n:Nat}{l1:List bu}{i0:bu}{bs:List Nat}{tr:List aJ}{ru:cI}{w0:World}{a0:Act}{ro:Option Nat}{v:AV}{h2:Heap}(R:Rg P H0 D N l1 bs e h tr e' h'){os:Array Oper}(hos:os.toList.map (bF P os)=l1++[i0])(vY:lf bs os.toList=true)
  (rP:cz (cC l1 tr h') l1 ((List.range l1.length).map (kQ bs l1 (b8 l1))) tr)(hb:∀j,j<l1.length→oU bs l1.length j)(hw0:bN i0 e'=true)(hnb:i0.op≠.bad)(hop:mY P H0 i0.op (i0.args.map e'.ev) h' v h2)
  {Q:Exit→Act→World→Prop}
  (hQ:∀ρ' a' w',Inv P H0 ρ' (grow D h.next h2.next) h2 w'→Ext ru D h w0 ρ' h2 w'→bI ρ' (grow D h.next h2.next) N e' a'→a'.defers=a0.defers→v.aV (grow D h.next h2.next)→Q (.panic [{v:=real ρ' v,recovered:=false}]) a' w'):
  ∀(fuel:Nat) (listed:Array Bool) (c:Nat) (ρ:cI) (a:Act) (w:World),listed.size=os.size→c∈0::(b8 l1).map (· +1)→listed.getD l1.length false=false→
   J P H0 D N l1 bs e h tr h' ru w0 a0 (fun j=>listed.getD j false) c ρ a w→os.size≤fuel+cnt (fun j=>listed.getD j false) os.size→
   wpAnyIn (FW ro) n P .any os Q fuel listed a w:=by
 have hlen:os.size=l1.length+1:=by have h:=congrArg List.length hos;simpa using h
 have hnot:∀(S:Nat→Bool),S l1.length=false→cnt S os.size≤l1.length:=by
  intro S hS;rw[hlen];simp only[cnt,hS,cond_false];exact CS S _
 have pH:∀i o,os[i]?=some o→(l1++[i0])[i]?=some (bF P os o):=fun i o ho=>by rw[←hos,List.getElem?_map,Array.getElem?_toList,ho];rfl
 intro fuel;induction fuel with
 |zero=>
  intro listed c ρ a w hsz hcan Jt hj QY;have:=hnot (fun j=>listed.getD j false) Jt;omega
 |succ fuel ih=>
  intro listed c ρ a w hsz hcan Jt hj QY;refine⟨fun hr=>?_,fun i hi=>?_⟩
  ·exfalso;have hall:∀k,k<os.size→listed.getD k false=true:=by
    intro k;induction k using Nat.strongRecOn with
    |_ k RF=>
     intro hk;cases hs:listed.getD k false with
     |true=>rfl
     |false=>
      have hmem:k∈Region.ready .any os listed:=by
       rw[mem_ready];refine⟨by simp[Array.getD_eq_getD_getElem?,hsz,hk] at hs⊢;exact hs,os[k],by simp[hk],fun ed vZ hb=>?_⟩;have hlt:=(iM vY (i:=k) (o:=os[k]) (by simp[hk])).2.1 ed (by simpa using vZ) hb;exact RF ed.on hlt (by omega)
      rw[hr] at hmem;simp at hmem
   rw[hall l1.length (by omega)] at Jt;simp at Jt
  ·obtain⟨h1,o,ho,tX⟩:=mem_ready.1 hi;have hlt:=(Array.getElem?_eq_some_iff.1 ho).1;have hsi:listed.getD i false=false:=by
    simp[Array.getD_eq_getD_getElem?,hsz,hlt] at h1⊢;exact h1
   have hS:(fun j=>(listed.setIfInBounds i true).getD j false)=dy (fun j=>listed.getD j false) i:=by
    funext k
    by_cases hk:k=i
    ·subst hk;simp[dy,Array.getD_eq_getD_getElem?,hsz,hlt]
    ·simp only[dy,hk,decide_false,Bool.or_false];exact getD_set_ne false (fun e=>hk e.symm)
   by_cases Jp:i<l1.length
   ·refine yA R (fun i o ho hi=>by have hh:=pH i o ho;rw[List.getElem?_append_left hi] at hh;exact hh) (by omega) Jp vY rP hj hcan ho hsi ?_ ?_
    ·intro k hb;obtain⟨ed,vZ,yK,fI⟩:=(iM vY (i:=i) (o:=o) (by simpa using ho)).1 k hb;have:=tX ed (by simpa using vZ) yK;rcases fI with rfl|fI
     ·exact this
     ·exact hj.closed _ this k fI
    ·intro c' ρ' a' w' ie hj';refine ih (listed.setIfInBounds i true) c' ρ' a' w' (by simp[hsz]) ie (by rw[getD_set_ne false (by omega)];exact Jt) (by rw[hS];exact hj') ?_;rw[hS,tN (S:=fun j=>listed.getD j false) hsi];simp only[hlt,decide_true,cond_true];omega
   ·have hin:i=l1.length:=by omega
    subst hin;have hall:∀k,k<l1.length→listed.getD k false=true:=by
     intro k hk;obtain⟨ed,vZ,yK,fI⟩:=(iM vY (i:=l1.length) (o:=o) (by simpa using ho)).1 k (hb k hk);have:=tX ed (by simpa using vZ) yK;rcases fI with rfl|fI
     ·exact this
     ·exact hj.closed _ this k fI
    obtain⟨g1,g2,g3,g4⟩:=hj.finish R hall;have hci:bF P os o=i0:=by
     have:=pH _ o ho;rw[List.getElem?_append_right (Nat.le_refl _)] at this;simpa using this.symm
    have iO:=ez hci (.inl hnb) g3;have hc:=((cP hci).2 (.inl hnb)).1;unfold wpOpIn;rw[ho];simp only;rw[if_pos (by rw[iO,hw0])];refine hop o i0.args hc ρ _ w a N e' ro n g1 g3 rfl _ _ ?_;intro ρ' w' k1 k2 k3;have Rc:=g2.next;have hn2:=k2.next;have k4:=g3.mono (ρ':=ρ') (D':=grow (grow D h.next h'.next) h'.next h2.next) k2.bA (fun _=>.inl);rw[dN D Rc hn2] at k1 k3 k4;exact hQ ρ' a w' k1 (Ext.trans R.Nd g2 k2) k4 g4 k3
theorem Hj(Ra:P.follows .mixedOrders=true){l1:List bu}{i0:bu}{win:List (List Nat)}{tr:List aJ}{v:AV}{h2:Heap}(kN:OT P H0 l1 e h tr e' h')(BI:mq l1 (win.take l1.length) tr h')(Jq:oe (l1++[i0])=true)(xP:bP i0.op=true)
  (hw0:bN i0 e'=true)(hop:i0.op≠.bad∧mY P H0 i0.op (i0.args.map e'.ev) h' v h2):bD P H0 rd (.cB (l1++[i0]) win) e h (.panic v) e' h2:=by
 refine cM fun code hs hc N hN ro hro ρ D w a W0 n tl hi he hm hW=>?_;obtain⟨idr,os,rfl,hos,uc,v7,rfl⟩:=qW hs hc;have Tb:de N (l1++[i0])=true:=hN;rw[qD,Bool.and_eq_true] at Tb;have hlen:os.size=l1.length+1:=by have:=congrArg List.length hos;simpa using this
 have hb:=fun j hj=>J9 uc v7 (by simpa using hlen) Jq (n:=l1.length) (by simp) (l1.length-j) j (by omega) hj;have Bu:∀j,j<l1.length→¬oU (nS os) j l1.length:=by
  intro j hj ZC;have:=(iM v7 (i:=j) (o:=os.toList[j]'(by simp;omega)) (List.getElem?_eq_getElem _)).2.2 _ ZC;omega
 rw[Cu xP Bu hb] at BI;have hpre:(os.toList.take l1.length).map (bF P os)=l1:=by rw[List.map_take,hos];simp
 have R:Rg P H0 D N l1 (nS os) e h tr e' h':=⟨kN,kN.uu hpre Tb.1 hi he,hi.lt,fun i j x y hij hx hy=>wM uc i j x y hij (by rw[List.getElem?_append_left (List.getElem?_eq_some_iff.1 hx).1];exact hx) (by rw[List.getElem?_append_left (List.getElem?_eq_some_iff.1 hy).1];exact hy),Tb.1⟩;refine wpIn_region_any Ra ?_;have hi':Inv P H0 ρ D h {w with drawn:=w.drawn+1}:=by
  refine⟨hi.lt,hi.top,hi.low,fun b x hb hx=>?_,hi.apart⟩;exact bO (hi.bJ b x hb hx) (fun _=>id) (fun _ _=>rfl) rfl
 have hS:(fun j=>(Array.replicate os.size false).getD j false)=fun _=>false:=by
  funext k
  simp[Array.getD_eq_getD_getElem?,Array.getElem?_replicate];split<;>simp
 have hst:=J.start R hi' he;rw[←hS] at hst;refine Gh R hos v7 BI hb hw0 hop.1 hop.2 ?_ os.size _ 0 _ a _ (by simp) (by simp) (congrFun hS _) hst (by omega);intro ρ' a' w' g1 g2 g3 g4 g5;have Pj:Ext ρ D h w ρ' h2 w':=⟨g2.next,g2.bA,g2.size,g2.frame,g2.iD,g2.old,g2.fresh,g2.tape,g2.os,g2.output⟩;exact⟨ρ',⟨rfl,g5⟩,g1,Pj,g3,by rw[g4];exact hm.ext hi.lt Pj,fun _=>g4⟩
end
end Ads
end Go.Proofs.YtnlcabhfkpafmaaGreat
