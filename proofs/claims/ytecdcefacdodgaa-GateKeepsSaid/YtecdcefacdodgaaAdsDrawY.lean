/-
  Regions that draw their order mean what they mean in the text's order.
  Regions that draw their order mean what they mean in the text's order: the induction.
-/
import Derived.Test.YtecdcefacdodgaaAdsDrawX
import Derived.Test.YtecdcefacdodgaaAdsCode
set_option linter.unusedSimpArgs false
set_option linter.unusedVariables false
namespace Go.Proofs.Ytecdcefacdodgaa
namespace Ads
section
variable {P:Program} {H0:Nat} {D:Dom} {N:Nat} {l:List bh} {bs:List Nat} {e:Env} {h:Heap} {tr:List aG} {e':Env} {h':Heap}
 {qO:cn} {w0:World} {a0:Act} {S:Nat→Bool} {c:Nat} {ρ:cn} {a:Act} {w:World} {i:Nat} {x:bh} {m:aG} {ro:Option Nat} {n:Nat} {rd:Bool}
theorem k8{α:Type}{f:Nat→α→Bool}:∀{l:List α} {k:Nat},sX f k l=true→∀{i:Nat} {x:α},l[i]?=some x→f (k+i) x=true
 |[],k,h,i,x,hx=>by simp at hx
 |y::l,k,h,i,x,hx=>by
  simp only[sX] at h;cases hf:f k y with
  |false=>rw[hf] at h;simp at h
  |true=>
   rw[hf] at h;cases i with
   |zero=>simp at hx;subst hx;exact hf
   |succ i=>
    simp at hx;have:=k8 (k:=k+1) h hx
    rwa [show k+1+i=k+(i+1) by omega] at this
theorem wu(hp:u0 bs l=true)(i j:Nat)(x y:bh)(hij:i<j)(hx:l[i]?=some x)(hy:l[j]?=some y):ow bs j i∨(¬(bH x.op=true∧bH y.op=true)∧nB x y=true):=by
 have h1:=k8 hp hy;have h2:=k8 h1 hx;simp only[Nat.zero_add,Bool.or_eq_true,decide_eq_true_eq,Bool.and_eq_true,Bool.not_eq_true',Bool.and_eq_false_iff] at h2;rcases h2 with(h2|h2)|h2
 ·omega
 ·exact .inl h2
 ·refine .inr ⟨?_,h2.2⟩;rintro⟨g1,g2⟩;rcases h2.1 with h3|h3
  ·rw[g1] at h3;simp at h3
  ·rw[g2] at h3;simp at h3
theorem tj{β:Type}(b:β→Bool)(g:β→Nat)(k:β→Nat)(j:Nat):∀(L:List β) (s:Nat),
  (L.foldl (fun s e=>cond (b e) (s|||2^k e|||g e) s) s).testBit j=(s.testBit j||L.any fun e=>b e&&(decide (k e=j)||(g e).testBit j))
 |[],s=>by simp
 |e::L,s=>by
  rw[List.foldl_cons,tj b g k j L];cases hb:b e
  ·simp[hb]
  ·simp[hb,Nat.testBit_or,Nat.testBit_two_pow,Bool.or_assoc]
theorem gQ{os:List Oper}(hp:kD bs os=true){i:Nat}{o:Oper}(ho:os[i]?=some o):
  (∀j,ow bs i j→∃ed∈o.after.toList,Region.binds .any ed=true∧(ed.on=j∨ow bs ed.on j))∧(∀ed∈o.after.toList,Region.binds .any ed=true→ed.on<i)∧∀j,ow bs i j→j<i:=by
 have h1:=k8 hp ho;simp only[Nat.zero_add,Bool.and_eq_true,decide_eq_true_eq] at h1;have h2:=Nat.eq_of_beq_eq_true h1.2;have hlt:∀j,ow bs i j→j<i:=by
  intro j hb;rcases Nat.lt_or_ge j i with hj|hj
  ·exact hj
  ·have:(bs.getD i 0).testBit j=false:=Nat.testBit_lt_two_pow (Nat.lt_of_lt_of_le h1.1 (Nat.pow_le_pow_right (by omega) hj));unfold ow at hb;rw[this] at hb;simp at hb
 have Rr:∀j,(bs.getD i 0).testBit j=o.after.toList.any fun ed=>Region.binds .any ed&&(decide (ed.on=j)||(bs.getD ed.on 0).testBit j):=by
  intro j;rw[h2,tj (fun ed=>Region.binds .any ed) (fun ed=>bs.getD ed.on 0) (fun ed=>ed.on) j o.after.toList 0];simp
 refine⟨fun j hb=>?_,fun ed vO yG=>?_,hlt⟩
 ·unfold ow at hb;rw[Rr,List.any_eq_true] at hb;obtain⟨ed,vO,hb⟩:=hb;simp only[Bool.and_eq_true,Bool.or_eq_true,decide_eq_true_eq] at hb;exact⟨ed,vO,hb.1,hb.2⟩
 ·refine hlt _ ?_;unfold ow;rw[Rr,List.any_eq_true];exact⟨ed,vO,by simp[yG]⟩
theorem qH{code:Code}{win:List (List Nat)}(hs:cS code=false)(hc:ay P code=.cm l win):∃id os,code=.region id os true∧os.toList.map (bw P os)=l∧
  u0 (nC os) l=true∧kD (nC os) os.toList=true∧win=(List.range l.length).map (kf (nC os) l (bO l)):=by
 cases code<;>simp[ay,cS] at hc hs
 case region id os draw=>
  unfold fZ at hc;simp only at hc;cases draw with
  |false=>simp at hc
  |true=>
   simp only[Bool.not_true,Bool.false_eq_true,if_false] at hc;split at hc
   ·rename_i ko;simp only[AC.cm.injEq] at hc;simp only[Bool.and_eq_true] at ko;obtain⟨rfl,rfl⟩:=hc;exact⟨id,os,rfl,rfl,ko.1,ko.2,rfl⟩
   ·simp at hc
 case cond c x y=>split at hc<;>simp at hc
 case rangeFunc f ps x y=>split at hc<;>simp at hc
def cnt(S:Nat→Bool):Nat→Nat
 |0=>0
 |n+1=>cnt S n+cond (S n) 1 0
theorem CZ(S:Nat→Bool):∀n,cnt S n≤n
 |0=>Nat.le_refl _
 |n+1=>by have:=CZ S n;simp only[cnt];cases S n<;>simp<;>omega
theorem A9(S:Nat→Bool):∀n,n≤cnt S n→∀j,j<n→S j=true
 |0,_,j,hj=>by omega
 |n+1,h,j,hj=>by
  simp only[cnt] at h;have:=CZ S n;cases hs:S n with
  |false=>rw[hs] at h;simp at h;omega
  |true=>
   rw[hs] at h;simp at h;by_cases hjn:j=n
   ·subst hjn;exact hs
   ·exact A9 S n (by omega) j (by omega)
theorem s7(hs:S i=false):∀n,cnt (cU S i) n=cnt S n+cond (decide (i<n)) 1 0
 |0=>by simp[cnt]
 |n+1=>by
  simp only[cnt];rw[s7 hs n];by_cases hin:n=i
  ·subst hin;simp[cU,hs]
  ·have:cU S i n=S n:=by simp[cU,hin]
   rw[this];by_cases hlt:i<n
   ·simp[hlt,show i<n+1 by omega];omega
   ·simp[hlt,show¬i<n+1 by omega]
theorem jy{p:Nat}:p∈bO l↔∃x,l[p]?=some x∧bH x.op=true:=by
 unfold bO;rw[List.mem_filter,List.mem_range];cases hx:l[p]? with
 |none=>simp[List.getElem?_eq_none_iff.1 hx]
 |some x=>simp[(List.getElem?_eq_some_iff.1 hx).1]
theorem uB{u:Nat→Heap}:∀{l:List bh} {win:List (List Nat)} {tr:List aG},b8 u l win tr→∀{i:Nat} {x:bh} {cs:List Nat} {m:aG} {o:CC},l[i]?=some x→win[i]?=some cs→tr[i]?=some m→
  x.op=.r o→m.on=true→∀c∈cs,rI o m.vals (u c)=some m.v
 |[],win,tr,h,i,x,cs,m,o,hx,hw,hm,ho,dI=>by simp at hx
 |y::l,[],tr,h,i,x,cs,m,o,hx,hw,hm,ho,dI=>by simp at hw
 |y::l,ds::win,[],h,i,x,cs,m,o,hx,hw,hm,ho,dI=>by simp at hm
 |y::l,ds::win,q::tr,h,i,x,cs,m,o,hx,hw,hm,ho,dI=>by
  simp only[b8] at h;cases i with
  |zero=>
   simp at hx hw hm;subst hx hw hm;have:=h.1;rw[ho] at this;exact this dI
  |succ i=>
   simp at hx hw hm;exact uB h.2 hx hw hm ho dI
theorem Cs(l:List bh):∀i:Nat,∃ct,ct∈0::(bO l).map (· +1)∧ct≤i∧∀p,p∈bO l→p<i→p<ct
 |0=>⟨0,by simp,Nat.le_refl _,fun p _ h=>by omega⟩
 |i+1=>by
  obtain⟨ct,h1,h2,h3⟩:=Cs l i;by_cases hi:i∈bO l
  ·exact⟨i+1,List.mem_cons_of_mem _ (List.mem_map.2 ⟨i,hi,rfl⟩),Nat.le_refl _,fun p _ h=>h⟩
  ·refine⟨ct,h1,by omega,fun p hp hlt=>h3 p hp ?_⟩;rcases Nat.lt_or_ge p i with h|h
   ·exact h
   ·have:p=i:=by omega
    subst this;exact absurd hp hi
theorem J.read(R:Rg P H0 D N l bs e h tr e' h')(j:J P H0 D N l bs e h tr h' qO w0 a0 S c ρ a w)(u:Up bs l tr S i x m){o:CC}(ho:x.op=.r o)(dI:m.on=true)
  (Wf:∀j,ow bs i j→j<i)(R6:∀p,p∈bO l→ow bs p i→i<p)(hcan:c∈0::(bO l).map (· +1))
  (q7:b8 (cg l tr h') l ((List.range l.length).map (kf bs l (bO l))) tr)(hr:rI o m.vals (aj tr h' i)=some m.v):rI o m.vals (cg l tr h' c)=some m.v:=by
 have hmay:∀c,c∈0::(bO l).map (· +1)→(∀p,p∈bO l→ow bs i p→p<c)→(∀p,p∈bO l→ow bs p i→¬p<c)→c∈oH bs l (bO l) i:=by
  intro c hc h1 h2;unfold oH;rw[List.mem_filter];refine⟨hc,?_⟩;unfold ux;rw[List.all_eq_true];intro p hp;simp only[Bool.and_eq_true,Bool.or_eq_true,Bool.not_eq_true',decide_eq_true_eq,decide_eq_false_iff_not];constructor
  ·cases hb:(bs.getD i 0).testBit p with
   |false=>exact .inl rfl
   |true=>exact .inr (h1 p hp hb)
  ·cases hb:(bs.getD p 0).testBit i with
   |false=>exact .inl rfl
   |true=>exact .inr (h2 p hp hb)
 have hc:c∈oH bs l (bO l) i:=by
  refine hmay c hcan (fun p hp hb=>?_) (fun p hp hb hlt=>?_)
  ·obtain⟨y,hy,Sm⟩:=jy.1 hp;exact(j.cut p y hy Sm).1 (u.pre p hb)
  ·obtain⟨y,hy,Sm⟩:=jy.1 hp;have:=j.closed p ((j.cut p y hy Sm).2 hlt) i hb;rw[u.hsi] at this;simp at this
 have hw:((List.range l.length).map (kf bs l (bO l)))[i]?=some (kf bs l (bO l) i):=by
  simp[u.lt]
 have IP:=uB q7 u.hx hw u.hm ho dI;by_cases hone:∃c0,oH bs l (bO l) i=[c0]
 ·obtain⟨c0,hc0⟩:=hone;obtain⟨ct,k1,k2,k3⟩:=Cs l i;have VF:=hmay ct k1 (fun p hp hb=>k3 p hp (Wf p hb)) (fun p hp hb hlt=>by have:=R6 p hp hb;omega);rw[hc0] at hc VF;simp at hc VF;subst VF;have hsame:∀b,(cg l tr h' c).get b=(cg l tr h' i).get b:=by
   intro b;rw[hc];have:=R.tU (c:=ct) b (i-ct) (fun q y R7 hq2 hy=>by
    cases Sm:bH y.op with
    |false=>rfl
    |true=>have:=k3 q (jy.2 ⟨y,hy,Sm⟩) (by omega);omega)
   rwa [show ct+(i-ct)=i by omega] at this
  refine Fc (h:=aj tr h' i) ?_ hr;intro b y hy;have hlt:b<(aj tr h' i).next:=by
   rcases Nat.lt_or_ge b (aj tr h' i).next with hb|hb
   ·exact hb
   ·rw[R.tT.top i b hb] at hy;simp at hy
  rw[hsame b,R.Ft hlt];exact hy
 ·refine IP c ?_;unfold kf;rw[u.hx];simp only[ho,I7,cond_true];split
  ·rename_i q hq;exact absurd ⟨q,hq⟩ hone
  ·exact hc
theorem Inv.PW{ρ ρ':cn}(j:Inv P H0 ρ D h w)(fI:∀b,D b→ρ' b=ρ b):Inv P H0 ρ' D h w:=
 ⟨j.lt,j.top,j.low,fun b x hb hx=>by rw[fI b hb];exact bG (j.bB b x hb hx) (fun _=>id) fI rfl,
  fun b b' hb hb' hne hw hx=>by rw[fI b hb,fI b' hb'];exact j.apart b b' hb hb' hne hw hx⟩
theorem J.start(R:Rg P H0 D N l bs e h tr e' h')(hi:Inv P H0 ρ D h w)(he:bz ρ D N e a):
  J P H0 D N l bs e h tr h' ρ w a (fun _=>false) 0 (fun b=>if b<h.next then ρ b else⟨w.heap.size,0,0⟩) a w:=by
 have fI:∀b,D b→(fun b=>if b<h.next then ρ b else⟨w.heap.size,0,0⟩:cn) b=ρ b:=fun b hb=>if_pos (R.LI b hb);have hds:DS D l tr h' (fun _=>false)=D:=by
  funext b
  simp[DS]
 have hz:=R.ot.zero;have oQ:h.next≤h'.next:=by have:=R.le_last 0;rwa [hz] at this
 have hg:∀b,b<h.next→(cg l tr h' 0).get b=h.get b:=by
  intro b hb;rw[R.Ft (by rw[hz];exact hb),hz]
 refine⟨fun j x _ _=>by simp,fun j hj=>by simp at hj,?_,?_,?_,?_,rfl⟩
 ·rw[hds];have hi':=hi.PW fI;refine⟨fun b hb=>Nat.lt_of_lt_of_le (R.LI b hb) oQ,fun b hb=>R.NQ hb,hi.low,?_,?_⟩
  ·intro b x hb hx;rw[hg b (R.LI b hb)] at hx;exact hi'.bB b x hb hx
  ·intro b b' hb hb' hne hw hx;rw[Heap.jd (hg b (R.LI b hb))] at hw;rw[hg b' (R.LI b' hb')] at hx;exact hi'.apart b b' hb hb' hne hw hx
 ·refine⟨oQ,fI,Nat.le_refl _,fun _ _ _=>rfl,fun b hb _=>hg b hb,?_,?_,rfl,rfl,rfl⟩
  ·intro b hb hn;rw[hg b hb] at hn;exact⟨hn,fun hw=>(Heap.jd (hg b hb)).symm.trans hw⟩
  ·intro b r6 jf;rw[if_neg (by omega)];exact .inl (Nat.le_refl _)
 ·intro j x m bk hx hm hb _;exact R.P3 hx hm hb (Nat.zero_le _)
 ·rw[hds];refine(he.mono fI (fun _=>id)).congr ?_;intro d;refine(mV l tr (fun _=>false) 0 d e e rfl R.ot.length (fun j x _ _=>by simp)).trans ?_;cases l<;>cases tr<;>simp[cD]
theorem uA(tr:List aG)(h':Heap)(lo:Nat):∀(k b:Nat),(aj tr h' 0).next≤b→b<(aj tr h' k).next→∃j,j<k∧(aj tr h' j).next≤b∧b<(aj tr h' (j+1)).next
 |0,b,h1,h2=>by omega
 |k+1,b,h1,h2=>by
  by_cases hb:b<(aj tr h' k).next
  ·obtain⟨j,g1,g2⟩:=uA tr h' lo k b h1 hb;exact⟨j,by omega,g2⟩
  ·exact⟨k,by omega,by omega,h2⟩
theorem J.finish(R:Rg P H0 D N l bs e h tr e' h')(j:J P H0 D N l bs e h tr h' qO w0 a0 S c ρ a w)(hall:∀k,k<l.length→S k=true):
  Inv P H0 ρ (grow D h.next h'.next) h' w∧Ext qO D h w0 ρ h' w∧bz ρ (grow D h.next h'.next) N e' a∧a.defers=a0.defers:=by
 have It:Cut l S l.length:=fun k x hx _=>by
  have:=(List.getElem?_eq_some_iff.1 hx).1;simp[hall k this,this]
 have hg:∀b,h'.get b=(cg l tr h' c).get b:=by
  intro b;rw[R.Fs j.cut It b];show h'.get b=(eW (l.drop l.length) (tr.drop l.length) (aj tr h' l.length).m).get b;rw[R.ot.last (Nat.le_refl _),List.drop_length];simp[eW,Heap.get]
 have hds:DS D l tr h' S=grow D h.next h'.next:=by
  funext b
  rw[eq_iff_iff];constructor
  ·rintro(hb|⟨q,_,_,h1,h2⟩)
   ·exact .inl hb
   ·exact .inr ⟨Nat.le_trans (R.tT.low q) h1,Nat.lt_of_lt_of_le h2 (R.le_last _)⟩
  ·rintro(hb|hb)
   ·exact .inl hb
   ·obtain⟨q,g1,g2,g3⟩:=uA tr h' 0 l.length b (by rw[R.ot.zero];exact hb.1) (by rw[R.ot.last (Nat.le_refl _)];exact hb.2);exact .inr ⟨q,hall q g1,g1,g2,g3⟩
 refine⟨?_,j.ext.congr rfl hg,?_,j.defers⟩
 ·rw[←hds];exact j.inv.congr rfl hg
 ·rw[←hds];refine j.env.congr ?_;intro d;rw[mV l tr S l.length d e e rfl R.ot.length (fun k x hx _=>by
   have:=(List.getElem?_eq_some_iff.1 hx).1;rw[hall k this];simp[this]),tf R.ot]
end
end Ads
end Go.Proofs.Ytecdcefacdodgaa
set_option linter.unusedSimpArgs false
set_option linter.unusedVariables false
namespace Go.Proofs.Ytecdcefacdodgaa
namespace Ads
section
variable {P:Program} {H0:Nat} {D:Dom} {N:Nat} {l:List bh} {bs:List Nat} {e:Env} {h:Heap} {tr:List aG} {e':Env} {h':Heap}
 {qO:cn} {w0:World} {a0:Act} {c:Nat} {ρ:cn} {a:Act} {w:World} {i:Nat} {x:bh} {m:aG} {ro:Option Nat} {n:Nat} {rd:Bool}
theorem yq(R:Rg P H0 D N l bs e h tr e' h'){os:Array Oper}(hos:∀i o,os[i]?=some o→i<l.length→l[i]?=some (bw P os o))(hsz:l.length≤os.size)(Dx:i<l.length)(vO:kD bs os.toList=true)
  (q7:b8 (cg l tr h') l ((List.range l.length).map (kf bs l (bO l))) tr){Q:Exit→Act→World→Prop}{S:Nat→Bool}
  (j:J P H0 D N l bs e h tr h' qO w0 a0 S c ρ a w)(hcan:c∈0::(bO l).map (· +1)){o:Oper}(ho:os[i]?=some o)(hsi:S i=false)
  (hpre:∀j,ow bs i j→S j=true){K:Act→World→Prop}
  (hk:∀c' ρ' a' w',c'∈0::(bO l).map (· +1)→J P H0 D N l bs e h tr h' qO w0 a0 (cU S i) c' ρ' a' w'→K a' w'):
  wpOpIn (FW ro) n P os Q i K a w:=by
 have hx:l[i]?=some (bw P os o):=hos i o ho Dx;obtain⟨m,hm,BH,yJ,Ru⟩:=R.ot.at hx;have u:Up bs l tr S i (bw P os o) m:=⟨hx,hm,hsi,hpre⟩;have m0:=j.vals R u;have ND:=j.wanted R u;have lC:(bw P os o).dst=o.dst:=(cw rfl).1;have ET:cond (bH (bw P os o).op) (i+1) c∈0::(bO l).map (· +1):=by
  cases he:bH (bw P os o).op with
  |false=>exact hcan
  |true=>exact List.mem_cons_of_mem _ (List.mem_map.2 ⟨i,jy.2 ⟨_,hx,he⟩,rfl⟩)
 unfold wpOpIn;rw[ho];simp only;rcases Ru with⟨dI,hw,hv,hst⟩|⟨dI,hw,hop⟩
 ·have hg:(bw P os o).guard.isSome=true:=by
   cases hg:(bw P os o).guard with
   |none=>simp[bF,hg] at hw
   |some _=>rfl
  have gT:=dL (P:=P) (ops:=os) rfl (.inr hg) j.env;rw[if_neg (by rw[gT,ND,hw];simp)];refine⟨fun _ _=>trivial,?_⟩;have:=hk _ _ _ _ ET (j.quiet R u hst (by unfold dm;split<;>simp_all) (by rw[hv];simp[AV.undef,AV.aP,aW]));rw[hv,eY,lC] at this;exact this
 ·have hnb:(bw P os o).op≠.bad:=by
   intro hb;rw[hb] at hop;exact hop
  have gT:=dL (P:=P) (ops:=os) rfl (.inl hnb) j.env;have hc:=((cw (P:=P) (ops:=os) (o:=o) rfl).2 (.inl hnb)).1;rw[if_pos (by rw[gT,ND,hw])];have Wq:m.vals=(bw P os o).args.map (eL S l tr e).ev:=by rw[m0];exact yJ
  have xL:bH (bw P os o).op=true→o.wpIn (FW ro) n P a w K Q:=by
   intro he;refine j.effect R u he hc lC yJ hop ?_;intro ρ' w' hj;rw[he] at ET;exact hk _ _ _ _ ET hj
  have IN:aj tr h' (i+1)=aj tr h' i→dm (bw P os o) m=none→bH (bw P os o).op=false→m.v.aP (DS D l tr h' S)→K (a.put o.dst (real ρ m.v)) w:=by
   intro hst hmb he hv;have:=hk _ _ _ _ ET (j.quiet R u hst hmb hv);rw[lC] at this;exact this
  generalize hq:bw P os o=q at*;obtain⟨qd,qg,WL,NL⟩:=q;simp only at*;cases WL with
  |p p=>
   obtain⟨hp,hst⟩:=hop;rw[Wq] at hp;have:=wq (w:=w) j.env hc hp;refine fM hc ?_;rw[this.1];exact IN hst (by simp[dm]) rfl this.2
  |r r=>
   obtain⟨hp,hst⟩:=hop;have vP:=gQ vO (i:=i) (o:=o) (by simpa using ho);have hr:=j.read R u (o:=r) rfl dI vP.2.2 (fun p gK hb=>by
    obtain⟨y,hy,_⟩:=jy.1 gK;have hlt:p<os.toList.length:=by
     have:=(List.getElem?_eq_some_iff.1 hy).1;rw[Array.length_toList];omega
    exact(gQ vO (i:=p) (o:=os.toList[p]) (List.getElem?_eq_getElem hlt)).2.2 i hb) hcan q7 hp
   rw[Wq] at hr;have:=Ca j.env j.inv hc hr;refine fM hc ?_;rw[this.1];exact IN hst (by simp[dm]) rfl this.2
  |a o'=>
   obtain⟨bk,f,hp,RX,hst⟩:=hop;have hmb:dm ⟨qd,qg,.a o',NL⟩ m=some bk:=by simp[dm,dI,hp]
   rw[Wq] at hp;obtain⟨obj,hrun,zY,hf⟩:=AH (H0:=H0) (w:=w) j.env hc hp;have hid:DS D l tr h' (cU S i) (aj tr h' i).next:=by
    refine(jM u.lt _).2 (.inr ⟨Nat.le_refl _,?_⟩);rw[hst];simp
   have OQ:=j.alloc R u hmb (obj:=obj) (fun ρ' D' h1 h2=>zY ρ' D' h1 h2 j.inv.low) (by rw[RX];exact hf _ _ hid);have:=hk _ _ _ _ hcan OQ;refine fM hc ?_;rw[hrun (aj tr h' i).next _ (bE _ _ _),←RX];show K (a.put o.dst _) _;rw[←lC];exact this
  |bad=>exact hop.elim
  |e o'=>exact xL rfl
  |call=>exact xL rfl
  |invoke s=>exact xL rfl
  |panic=>exact xL rfl
theorem HF(R:Rg P H0 D N l bs e h tr e' h'){os:Array Oper}(hos:os.toList.map (bw P os)=l)(vO:kD bs os.toList=true)
  (q7:b8 (cg l tr h') l ((List.range l.length).map (kf bs l (bO l))) tr){Q:Exit→Act→World→Prop}
  (hQ:∀ρ' a' w',Inv P H0 ρ' (grow D h.next h'.next) h' w'→Ext qO D h w0 ρ' h' w'→bz ρ' (grow D h.next h'.next) N e' a'→a'.defers=a0.defers→Q .normal a' w'):
  ∀(fuel:Nat) (listed:Array Bool) (c:Nat) (ρ:cn) (a:Act) (w:World),listed.size=os.size→c∈0::(bO l).map (· +1)→
   J P H0 D N l bs e h tr h' qO w0 a0 (fun j=>listed.getD j false) c ρ a w→os.size≤fuel+cnt (fun j=>listed.getD j false) os.size→
   wpAnyIn (FW ro) n P .any os Q fuel listed a w:=by
 have hlen:l.length=os.size:=by rw[←hos];simp
 intro fuel;induction fuel with
 |zero=>
  intro listed c ρ a w hsz hcan hj OM;have hall:∀k,k<os.size→listed.getD k false=true:=A9 (fun j=>listed.getD j false) os.size (by omega);refine⟨?_,?_⟩
  ·rw[List.eq_nil_iff_forall_not_mem];intro i hi;obtain⟨h1,o,ho,_⟩:=mem_ready.1 hi;have hlt:=(Array.getElem?_eq_some_iff.1 ho).1;have:=hall i hlt;simp[Array.getD_eq_getD_getElem?,hsz,hlt] at h1 this;rw[h1] at this;simp at this
  ·obtain⟨g1,g2,g3,g4⟩:=hj.finish R (fun k hk=>hall k (by omega));exact hQ ρ a w g1 g2 g3 g4
 |succ fuel ih=>
  intro listed c ρ a w hsz hcan hj OM;refine⟨fun hr=>?_,fun i hi=>?_⟩
  ·
   have hall:∀k,k<os.size→listed.getD k false=true:=by
    intro k;induction k using Nat.strongRecOn with
    |_ k Pj=>
     intro hk;cases hs:listed.getD k false with
     |true=>rfl
     |false=>
      have hmem:k∈Region.ready .any os listed:=by
       rw[mem_ready];refine⟨by simp[Array.getD_eq_getD_getElem?,hsz,hk] at hs⊢;exact hs,os[k],by simp[hk],fun ed vP hb=>?_⟩;have hlt:=(gQ vO (i:=k) (o:=os[k]) (by simp[hk])).2.1 ed (by simpa using vP) hb;exact Pj ed.on hlt (by omega)
      rw[hr] at hmem;simp at hmem
   obtain⟨g1,g2,g3,g4⟩:=hj.finish R (fun k hk=>hall k (by omega));exact hQ ρ a w g1 g2 g3 g4
  ·obtain⟨h1,o,ho,tF⟩:=mem_ready.1 hi;have hlt:=(Array.getElem?_eq_some_iff.1 ho).1;have hsi:listed.getD i false=false:=by
    simp[Array.getD_eq_getD_getElem?,hsz,hlt] at h1⊢;exact h1
   have hS:(fun j=>(listed.setIfInBounds i true).getD j false)=cU (fun j=>listed.getD j false) i:=by
    funext k
    by_cases hk:k=i
    ·subst hk;simp[cU,Array.getD_eq_getD_getElem?,hsz,hlt]
    ·simp only[cU,hk,decide_false,Bool.or_false];exact getD_set_ne false (fun e=>hk e.symm)
   refine yq R (fun i o ho _=>by rw[←hos,List.getElem?_map];simp[ho]) (by omega) (by omega) vO q7 hj hcan ho hsi ?_ ?_
   ·intro k hb;obtain⟨ed,vP,yG,dI⟩:=(gQ vO (i:=i) (o:=o) (by simpa using ho)).1 k hb;have:=tF ed (by simpa using vP) yG;rcases dI with rfl|dI
    ·exact this
    ·exact hj.closed _ this k dI
   ·intro c' ρ' a' w' ju hj';refine ih (listed.setIfInBounds i true) c' ρ' a' w' (by simp[hsz]) ju (by rw[hS];exact hj') ?_;rw[hS,s7 (S:=fun j=>listed.getD j false) hsi];simp only[hlt,decide_true,cond_true];omega
end
section
variable {P:Program} {H0:Nat} {e e':Env} {h h':Heap} {rd:Bool}
theorem JU(OS:P.follows .mixedOrders=true){l:List bh}{win:List (List Nat)}{tr:List aG}(j7:OT P H0 l e h tr e' h')(BJ:lO l win tr h'):
  bu P H0 rd (.cm l win) e h .normal e' h':=by
 refine cr fun code hs hc N hN ro hro ρ D w a W0 n tl hi he hm hW=>?_;obtain⟨idr,os,rfl,hos,tJ,vQ,rfl⟩:=qH hs hc;have R:Rg P H0 D N l (nC os) e h tr e' h':=⟨j7,j7.tT hos hN hi he,hi.lt,wu tJ,hN⟩;refine wpIn_region_any OS ?_;have hi':Inv P H0 ρ D h {w with drawn:=w.drawn+1}:=by
  refine⟨hi.lt,hi.top,hi.low,fun b x hb hx=>?_,hi.apart⟩;exact bG (hi.bB b x hb hx) (fun _=>id) (fun _ _=>rfl) rfl
 have hS:(fun j=>(Array.replicate os.size false).getD j false)=fun _=>false:=by
  funext k
  simp[Array.getD_eq_getD_getElem?,Array.getElem?_replicate];split<;>simp
 have hst:=J.start R hi' he;rw[←hS] at hst;refine HF R hos vQ BJ ?_ os.size _ 0 _ a _ (by simp) (by simp) hst (by omega);intro ρ' a' w' g1 g2 g3 g4;have Ql:Ext ρ D h w ρ' h' w':=⟨g2.next,g2.bp,g2.size,g2.frame,g2.gJ,g2.old,g2.fresh,g2.tape,g2.os,g2.output⟩;exact⟨ρ',rfl,g1,Ql,g3,by rw[g4];exact hm.ext hi.lt Ql,fun _=>g4⟩
theorem C8{bs:List Nat}{os:List Oper}(hp:kD bs os=true){i:Nat}{o:Oper}(ho:os[i]?=some o){j:Nat}{ed:Edge}(vO:ed∈o.after.toList)(hb:Region.binds .any ed=true)(hj:ed.on=j∨ow bs ed.on j):ow bs i j:=by
 have h1:=k8 hp ho;simp only[Nat.zero_add,Bool.and_eq_true,decide_eq_true_eq] at h1;have h2:=Nat.eq_of_beq_eq_true h1.2;unfold ow at*;rw[h2,tj (fun ed=>Region.binds .any ed) (fun ed=>bs.getD ed.on 0) (fun ed=>ed.on) j o.after.toList 0,Nat.zero_testBit,Bool.false_or,List.any_eq_true];refine⟨ed,vO,?_⟩;rcases hj with hj|hj
 ·simp[hb,hj]
 ·simp only[hb,hj,Bool.or_true,Bool.and_self]
theorem FE{bs:List Nat}{os:List Oper}(hp:kD bs os=true):∀(i:Nat),i<os.length→∀{k j:Nat},ow bs i k→ow bs k j→ow bs i j:=by
 intro i;induction i using Nat.strongRecOn with
 |_ i ih=>
  intro hi k j hk hj;have ho:os[i]?=some os[i]:=List.getElem?_eq_getElem hi;obtain⟨ed,h1,h2,h3⟩:=(gQ hp ho).1 k hk;have hlt:=(gQ hp ho).2.1 ed h1 h2;refine C8 hp ho h1 h2 (.inr ?_);rcases h3 with h3|h3
  ·rw[h3];exact hj
  ·exact ih ed.on hlt (by omega) h3 hj
theorem yQ{y:bh}:∀{r:List bh},linked y r=true→∃(k:Nat) (z:bh),r[k]?=some z∧((bH y.op=true∧bH z.op=true)∨nB y z=false)
 |[],h=>by simp[linked] at h
 |z::r,h=>by
  simp only[linked,Bool.or_eq_true,Bool.and_eq_true,Bool.not_eq_true'] at h;rcases h with(h|h)|h
  ·exact⟨0,z,rfl,.inl h⟩
  ·exact⟨0,z,rfl,.inr h⟩
  ·obtain⟨k,z',h1,h2⟩:=yQ h;exact⟨k+1,z',h1,h2⟩
theorem yO:∀{l:List bh},nJ l=true→∀{j:Nat} {y:bh},l[j]?=some y→j+1<l.length→∃(k:Nat) (z:bh),j<k∧l[k]?=some z∧((bH y.op=true∧bH z.op=true)∨nB y z=false)
 |[],_,j,y,hy,hlt=>by simp at hlt
 |[_],_,j,y,hy,hlt=>by simp at hlt
 |y0::z0::r,h,j,y,hy,hlt=>by
  simp only[nJ,Bool.and_eq_true] at h;cases j with
  |zero=>
   simp only[List.getElem?_cons_zero,Option.some.injEq] at hy;subst hy;obtain⟨k,z,h1,h2⟩:=yQ h.1;exact⟨k+1,z,by omega,by rw[List.getElem?_cons_succ];exact h1,h2⟩
  |succ j=>
   rw[List.getElem?_cons_succ] at hy;obtain⟨k,z,h1,h2,h3⟩:=yO h.2 hy (by simp only[List.length_cons] at hlt⊢;omega);exact⟨k+1,z,by omega,by rw[List.getElem?_cons_succ];exact h2,h3⟩
theorem Jb{bs:List Nat}{os:List Oper}{l:List bh}(tJ:u0 bs l=true)(vO:kD bs os=true)(hlen:os.length=l.length)(hl:nJ l=true){n:Nat}(hn:n+1=l.length):
  ∀(d j:Nat),j+d=n→j<n→ow bs n j:=by
 intro d;induction d using Nat.strongRecOn with
 |_ d ih=>
  intro j hd hj;have hy:l[j]?=some l[j]:=List.getElem?_eq_getElem (by omega);obtain⟨k,z,h1,h2,h3⟩:=yO hl hy (by omega);have hk:=(List.getElem?_eq_some_iff.1 h2).1;have hb:ow bs k j:=by
   rcases wu tJ j k _ _ h1 hy h2 with hb|⟨r6,jf⟩
   ·exact hb
   ·rcases h3 with h3|h3
    ·exact absurd h3 r6
    ·rw[h3] at jf;simp at jf
  by_cases hkn:k=n
  ·rw[←hkn];exact hb
  ·have:=ih (n-k) (by omega) k (by omega) (by omega);exact FE vO n (by omega) this hb
theorem Cz{bs:List Nat}{l1:List bh}{i0:bh}(xL:bH i0.op=true)(Bz:∀j,j<l1.length→¬ow bs j l1.length)(hb:∀j,j<l1.length→ow bs l1.length j):
  ((List.range (l1++[i0]).length).map (kf bs (l1++[i0]) (bO (l1++[i0])))).take l1.length=(List.range l1.length).map (kf bs l1 (bO l1)):=by
 have RF:bO (l1++[i0])=bO l1++[l1.length]:=by
  unfold bO;rw[List.length_append,List.length_singleton,List.range_succ,List.filter_append]
  congr 1
  ·refine List.filter_congr fun k hk=>?_;rw[List.mem_range] at hk;rw[List.getElem?_append_left hk]
  ·simp[xL]
 rw[←List.map_take,List.length_append,List.length_singleton,List.take_range,Nat.min_eq_left (by omega)];refine List.map_congr_left fun j hj=>?_;rw[List.mem_range] at hj;have Rx:oH bs (l1++[i0]) (bO l1++[l1.length]) j=oH bs l1 (bO l1) j:=by
  unfold oH;rw[List.map_append,←List.cons_append,List.filter_append];have h1:List.filter (ux bs (bO l1++[l1.length]) j) (0::(bO l1).map (· +1))=List.filter (ux bs (bO l1) j) (0::(bO l1).map (· +1)):=by
   refine List.filter_congr fun c hc=>?_;have iL:c≤l1.length:=by
    rcases List.mem_cons.1 hc with rfl|hc
    ·omega
    ·obtain⟨p,hp,rfl⟩:=List.mem_map.1 hc;obtain⟨y,hy,_⟩:=jy.1 hp;exact(List.getElem?_eq_some_iff.1 hy).1
   have hf:(bs.getD j 0).testBit l1.length=false:=by
    have:=Bz j hj;unfold ow at this;simpa using this
   unfold ux;rw[List.all_append];simp only[List.all_cons,List.all_nil,hf,Bool.not_false,Bool.true_or,Bool.true_and,Bool.and_true,show¬(l1.length<c) by omega,decide_false,Bool.or_true]
  have h2:List.filter (ux bs (bO l1++[l1.length]) j) (List.map (· +1) [l1.length])=[]:=by
   have Vs:(bs.getD l1.length 0).testBit j=true:=hb j hj;have:ux bs (bO l1++[l1.length]) j (l1.length+1)=false:=by
    unfold ux;rw[List.all_append];simp only[List.all_cons,List.all_nil,Vs,Bool.not_true,Bool.false_or,Bool.and_true,Nat.lt_succ_self,decide_true,Bool.not_true,Bool.and_false]
   simp[this]
  rw[h1,h2,List.append_nil]
 unfold kf;rw[RF,List.getElem?_append_left hj];cases l1[j]? with
 |none=>rfl
 |some x=>simp only[Rx]
theorem FO{D:Dom}{N n:Nat}{l1:List bh}{i0:bh}{bs:List Nat}{tr:List aG}{qO:cn}{w0:World}{a0:Act}{ro:Option Nat}{v:AV}{h2:Heap}(R:Rg P H0 D N l1 bs e h tr e' h'){os:Array Oper}(hos:os.toList.map (bw P os)=l1++[i0])(vO:kD bs os.toList=true)
  (q7:b8 (cg l1 tr h') l1 ((List.range l1.length).map (kf bs l1 (bO l1))) tr)(hb:∀j,j<l1.length→ow bs l1.length j)(hw0:bF i0 e'=true)(hnb:i0.op≠.bad)(hop:mF P H0 i0.op (i0.args.map e'.ev) h' v h2)
  {Q:Exit→Act→World→Prop}
  (hQ:∀ρ' a' w',Inv P H0 ρ' (grow D h.next h2.next) h2 w'→Ext qO D h w0 ρ' h2 w'→bz ρ' (grow D h.next h2.next) N e' a'→a'.defers=a0.defers→v.aP (grow D h.next h2.next)→Q (.panic [{v:=real ρ' v,recovered:=false}]) a' w'):
  ∀(fuel:Nat) (listed:Array Bool) (c:Nat) (ρ:cn) (a:Act) (w:World),listed.size=os.size→c∈0::(bO l1).map (· +1)→listed.getD l1.length false=false→
   J P H0 D N l1 bs e h tr h' qO w0 a0 (fun j=>listed.getD j false) c ρ a w→os.size≤fuel+cnt (fun j=>listed.getD j false) os.size→
   wpAnyIn (FW ro) n P .any os Q fuel listed a w:=by
 have hlen:os.size=l1.length+1:=by have h:=congrArg List.length hos;simpa using h
 have hnot:∀(S:Nat→Bool),S l1.length=false→cnt S os.size≤l1.length:=by
  intro S hS;rw[hlen];simp only[cnt,hS,cond_false];exact CZ S _
 have vL:∀i o,os[i]?=some o→(l1++[i0])[i]?=some (bw P os o):=fun i o ho=>by rw[←hos,List.getElem?_map,Array.getElem?_toList,ho];rfl
 intro fuel;induction fuel with
 |zero=>
  intro listed c ρ a w hsz hcan IC hj OM;have:=hnot (fun j=>listed.getD j false) IC;omega
 |succ fuel ih=>
  intro listed c ρ a w hsz hcan IC hj OM;refine⟨fun hr=>?_,fun i hi=>?_⟩
  ·exfalso;have hall:∀k,k<os.size→listed.getD k false=true:=by
    intro k;induction k using Nat.strongRecOn with
    |_ k Pj=>
     intro hk;cases hs:listed.getD k false with
     |true=>rfl
     |false=>
      have hmem:k∈Region.ready .any os listed:=by
       rw[mem_ready];refine⟨by simp[Array.getD_eq_getD_getElem?,hsz,hk] at hs⊢;exact hs,os[k],by simp[hk],fun ed vP hb=>?_⟩;have hlt:=(gQ vO (i:=k) (o:=os[k]) (by simp[hk])).2.1 ed (by simpa using vP) hb;exact Pj ed.on hlt (by omega)
      rw[hr] at hmem;simp at hmem
   rw[hall l1.length (by omega)] at IC;simp at IC
  ·obtain⟨h1,o,ho,tF⟩:=mem_ready.1 hi;have hlt:=(Array.getElem?_eq_some_iff.1 ho).1;have hsi:listed.getD i false=false:=by
    simp[Array.getD_eq_getD_getElem?,hsz,hlt] at h1⊢;exact h1
   have hS:(fun j=>(listed.setIfInBounds i true).getD j false)=cU (fun j=>listed.getD j false) i:=by
    funext k
    by_cases hk:k=i
    ·subst hk;simp[cU,Array.getD_eq_getD_getElem?,hsz,hlt]
    ·simp only[cU,hk,decide_false,Bool.or_false];exact getD_set_ne false (fun e=>hk e.symm)
   by_cases Dx:i<l1.length
   ·refine yq R (fun i o ho hi=>by have hh:=vL i o ho;rw[List.getElem?_append_left hi] at hh;exact hh) (by omega) Dx vO q7 hj hcan ho hsi ?_ ?_
    ·intro k hb;obtain⟨ed,vP,yG,dI⟩:=(gQ vO (i:=i) (o:=o) (by simpa using ho)).1 k hb;have:=tF ed (by simpa using vP) yG;rcases dI with rfl|dI
     ·exact this
     ·exact hj.closed _ this k dI
    ·intro c' ρ' a' w' ju hj';refine ih (listed.setIfInBounds i true) c' ρ' a' w' (by simp[hsz]) ju (by rw[getD_set_ne false (by omega)];exact IC) (by rw[hS];exact hj') ?_;rw[hS,s7 (S:=fun j=>listed.getD j false) hsi];simp only[hlt,decide_true,cond_true];omega
   ·have hin:i=l1.length:=by omega
    subst hin;have hall:∀k,k<l1.length→listed.getD k false=true:=by
     intro k hk;obtain⟨ed,vP,yG,dI⟩:=(gQ vO (i:=l1.length) (o:=o) (by simpa using ho)).1 k (hb k hk);have:=tF ed (by simpa using vP) yG;rcases dI with rfl|dI
     ·exact this
     ·exact hj.closed _ this k dI
    obtain⟨g1,g2,g3,g4⟩:=hj.finish R hall;have Xd:bw P os o=i0:=by
     have:=vL _ o ho;rw[List.getElem?_append_right (Nat.le_refl _)] at this;simpa using this.symm
    have gT:=dL Xd (.inl hnb) g3;have hc:=((cw Xd).2 (.inl hnb)).1;unfold wpOpIn;rw[ho];simp only;rw[if_pos (by rw[gT,hw0])];refine hop o i0.args hc ρ _ w a N e' ro n g1 g3 rfl _ _ ?_;intro ρ' w' k1 k2 k3;have GX:=g2.next;have hn2:=k2.next;have k4:=g3.mono (ρ':=ρ') (D':=grow (grow D h.next h'.next) h'.next h2.next) k2.bp (fun _=>.inl);rw[dh D GX hn2] at k1 k3 k4;exact hQ ρ' a w' k1 (Ext.trans R.LI g2 k2) k4 g4 k3
theorem Gx(OS:P.follows .mixedOrders=true){l1:List bh}{i0:bh}{win:List (List Nat)}{tr:List aG}{v:AV}{h2:Heap}(j7:OT P H0 l1 e h tr e' h')(BJ:lO l1 (win.take l1.length) tr h')(iC:nJ (l1++[i0])=true)(xL:bH i0.op=true)
  (hw0:bF i0 e'=true)(hop:i0.op≠.bad∧mF P H0 i0.op (i0.args.map e'.ev) h' v h2):bu P H0 rd (.cm (l1++[i0]) win) e h (.panic v) e' h2:=by
 refine cr fun code hs hc N hN ro hro ρ D w a W0 n tl hi he hm hW=>?_;obtain⟨idr,os,rfl,hos,tJ,vQ,rfl⟩:=qH hs hc;have Qn:cP N (l1++[i0])=true:=hN;rw[qe,Bool.and_eq_true] at Qn;have hlen:os.size=l1.length+1:=by have:=congrArg List.length hos;simpa using this
 have hb:=fun j hj=>Jb tJ vQ (by simpa using hlen) iC (n:=l1.length) (by simp) (l1.length-j) j (by omega) hj;have Bz:∀j,j<l1.length→¬ow (nC os) j l1.length:=by
  intro j hj Vs;have:=(gQ vQ (i:=j) (o:=os.toList[j]'(by simp;omega)) (List.getElem?_eq_getElem _)).2.2 _ Vs;omega
 rw[Cz xL Bz hb] at BJ;have hpre:(os.toList.take l1.length).map (bw P os)=l1:=by rw[List.map_take,hos];simp
 have R:Rg P H0 D N l1 (nC os) e h tr e' h':=⟨j7,j7.tT hpre Qn.1 hi he,hi.lt,fun i j x y hij hx hy=>wu tJ i j x y hij (by rw[List.getElem?_append_left (List.getElem?_eq_some_iff.1 hx).1];exact hx) (by rw[List.getElem?_append_left (List.getElem?_eq_some_iff.1 hy).1];exact hy),Qn.1⟩;refine wpIn_region_any OS ?_;have hi':Inv P H0 ρ D h {w with drawn:=w.drawn+1}:=by
  refine⟨hi.lt,hi.top,hi.low,fun b x hb hx=>?_,hi.apart⟩;exact bG (hi.bB b x hb hx) (fun _=>id) (fun _ _=>rfl) rfl
 have hS:(fun j=>(Array.replicate os.size false).getD j false)=fun _=>false:=by
  funext k
  simp[Array.getD_eq_getD_getElem?,Array.getElem?_replicate];split<;>simp
 have hst:=J.start R hi' he;rw[←hS] at hst;refine FO R hos vQ BJ hb hw0 hop.1 hop.2 ?_ os.size _ 0 _ a _ (by simp) (by simp) (congrFun hS _) hst (by omega);intro ρ' a' w' g1 g2 g3 g4 g5;have Ql:Ext ρ D h w ρ' h2 w':=⟨g2.next,g2.bp,g2.size,g2.frame,g2.gJ,g2.old,g2.fresh,g2.tape,g2.os,g2.output⟩;exact⟨ρ',⟨rfl,g5⟩,g1,Ql,g3,by rw[g4];exact hm.ext hi.lt Ql,fun _=>g4⟩
end
end Ads
end Go.Proofs.Ytecdcefacdodgaa
