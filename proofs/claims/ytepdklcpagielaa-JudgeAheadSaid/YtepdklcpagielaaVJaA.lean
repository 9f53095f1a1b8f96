/-
  Judge: what is found at a note hangs on the notes up to that one alone.
-/
import Derived.Test.YtepdklcpagielaaVJu
import Derived.Test.YtepdklcpagielaaVJdW
import Derived.Test.YtepdklcpagielaaZA
set_option maxRecDepth 100000
set_option linter.unusedSimpArgs false
set_option linter.unusedVariables false
namespace Go.Proofs.Ytepdklcpagielaa
open Go Ads
namespace Ir
theorem DI{k n:Nat}{l:List Nt}(h:n≤l.length):pV (.slice 7 false true false) [.fz k (b8 l),.int .i64 ((n:Nat):Int)]=some (.fz (cV k false n l.length l.length) (b8 (l.take n))):=by
 have hb:bounds (b8 l).length (b8 l).length false true false [.int .i64 ((n:Nat):Int)]=some (0,n,(b8 l).length):=by
  have b1:Nat.ble 0 n=true:=Nat.ble_eq_true_of_le (Nat.zero_le _);have b2:Nat.ble n (b8 l).length=true:=by rw[bU];exact Nat.ble_eq_true_of_le h
  have b3:Nat.ble (b8 l).length (b8 l).length=true:=Nat.ble_eq_true_of_le (Nat.le_refl _);show cond (Nat.ble 0 n&&Nat.ble n (b8 l).length&&Nat.ble (b8 l).length (b8 l).length) _ _=_;rw[b1,b2,b3];rfl
 show lG 7 false true false k (b8 l) [.int .i64 ((n:Nat):Int)]=_;unfold lG;rw[hb];have h0:(Nat.beq 0 (b8 l).length&&Nat.beq k 0&&!Nat.beq 0 0)=false:=by simp
 show cond (Nat.beq 0 (b8 l).length&&Nat.beq k 0&&!Nat.beq 0 0) _ _=_;rw[h0,cond_false,dK,cond_true,bU,List.drop_zero,Nat.sub_zero,b8,b8,List.map_take]
def EY(l:List Nt):Int:=l.foldl (fun u x=>max u (min x.a 400)) 0
theorem Nd{l:List Nt}{j:Nat}(hj:j<l.length):EY (l.take (j+1))=max (EY (l.take j)) (min l[j].a 400):=by
 rw[eY hj,EY,List.foldl_append];rfl
theorem EZ:∀(l:List Nt) (u:Int),0≤u→u≤400→(u≤l.foldl (fun u x=>max u (min x.a 400)) u∧l.foldl (fun u x=>max u (min x.a 400)) u≤400)∧∀x∈l,(x.a>400↔x.a>l.foldl (fun u x=>max u (min x.a 400)) u)
 |[],u,h0,h4=>⟨⟨Int.le_refl _,h4⟩,fun x hx=>by simp at hx⟩
 |y::l,u,h0,h4=>by
  obtain⟨⟨a,b⟩,c⟩:=EZ l (max u (min y.a 400)) (by omega) (by omega);simp only[List.foldl_cons];refine⟨⟨by omega,b⟩,fun x hx=>?_⟩;rcases List.mem_cons.1 hx with rfl|hx
  ·constructor<;>intro h<;>omega
  ·exact c x hx
theorem PS{un T0:Int}{s:Ks}{x:Nt}(h:x.a>un↔x.a>T0):kT un s x=kT T0 s x:=by
 have hs:cX s.1 s.2.2.1 un x=cX s.1 s.2.2.1 T0 x:=by
  unfold cX;rw[show decide (x.a>un)=decide (x.a>T0) from decide_eq_decide.2 h]
 unfold kT;rw[hs]
theorem MF{un T0:Int}:∀{l:List Nt} {j:Nat} {s:Ks},(∀x∈l,(x.a>un↔x.a>T0))→jh un j s l=jh T0 j s l
 |[],j,s,_=>rfl
 |x::l,j,s,h=>by
  simp only[jh];rw[PS (h x (by simp))];split
  ·rfl
  ·exact MF (fun y hy=>h y (by simp[hy]))
theorem HS{un:Int}:∀{l m:List Nt} {j:Nat} {s:Ks},jh un j s (l++m)=match jh un j s l with|.inl r=>.inl r|.inr s'=>jh un (j+l.length) s' m
 |[],m,j,s=>rfl
 |x::l,m,j,s=>by
  simp only[List.cons_append,jh];cases kT un s x with
  |inl r=>rfl
  |inr s'=>
   simp only;rw[HS (l:=l) (m:=m) (j:=j+1) (s:=s'),List.length_cons,show j+1+l.length=j+(l.length+1) by omega]
theorem Gy{un:Int}:∀{l:List Nt} {j:Nat} {s:Ks} {r:Int×Nat},jh un j s l=.inl r→j≤r.2∧r.2<j+l.length
 |[],j,s,r,h=>by simp[jh] at h
 |x::l,j,s,r,h=>by
  simp only[jh] at h;split at h
  ·simp only[Sum.inl.injEq] at h;subst h;simp
  ·obtain⟨a,b⟩:=Gy h;rw[List.length_cons];omega
theorem Kw{n:Nat}{ps:List Pr}{now:Int}{bf gone:Bool}{rule:Int}(h:xK n ps now bf gone=.inl rule):0<rule:=by
 unfold xK at h;split at h
 ·simp only[Sum.inl.injEq] at h;omega
 ·split at h
  ·simp only[Sum.inl.injEq] at h;omega
  ·split at h
   ·simp only[Sum.inl.injEq] at h;omega
   ·simp at h
theorem M8{n:Nat}{rule:Int}:∀{k:Nat} {ps:List Pr} {now:Int} {bf gone:Bool},nV n k ps now bf gone=.inl rule→0<rule:=by
 intro k;induction k with
 |zero=>intro ps now bf gone h;simp[nV] at h
 |succ k ih2=>
  intro ps now bf gone h;simp only[nV] at h;split at h
  ·rename_i r' hr';simp only[Sum.inl.injEq] at h;subst h;exact Kw hr'
  ·exact ih2 h
theorem EX(p:Pr)(x:Nt)(t:Tk):0≤eu p x t:=by
 unfold eu;split
 ·split<;>omega
 ·split
  ·omega
  ·split<;>omega
theorem Jf{un:Int}{s:Ks}{x:Nt}{r:Int}(h:kT un s x=.inl r):0<r:=by
 unfold kT at h;split at h
 ·simp only[Sum.inl.injEq] at h;omega
 split at h
 ·rename_i r' hr;simp only[Sum.inl.injEq] at h;subst h;exact M8 hr
 ·unfold BN zi at h;split at h
  ·simp only[Sum.inl.injEq] at h;omega
  split at h
  ·simp only[Sum.inl.injEq] at h;omega
  split at h
  ·simp only[Sum.inl.injEq] at h;omega
  split at h
  ·simp at h
  split at h
  ·rename_i ht;simp only[Sum.inl.injEq] at h;subst h;simp only[Bool.and_eq_true,bne_iff_ne] at ht;have h0:=ht.2;rename_i ps _ _ _ _ _ _ _ _;have h1:=EX (ps.getD x.p.toNat mg) x ((s.1.getD x.p.toNat Gt).ts.getD x.t.toNat jv);omega
  split at h
  ·simp only[Sum.inl.injEq] at h;omega
  ·simp at h
theorem EJ{un:Int}:∀{l:List Nt} {j:Nat} {s:Ks} {r:Int×Nat},jh un j s l=.inl r→0<r.1
 |[],j,s,r,h=>by simp[jh] at h
 |x::l,j,s,r,h=>by
  simp only[jh] at h;split at h
  ·rename_i r' hr;simp only[Sum.inl.injEq] at h;subst h;exact Jf hr
  ·exact EJ h
theorem DU{L:List Pt}{O:List Po}{l:List Nt}{un:Int}(hc:eT L O=true)(h0:0≤un)(h1:un≤10000):di L O l un=if((fj un (qU L) l).1==0)=true then(0,0,0) else((fj un (qU L) l).1,(((fj un (qU L) l).2:Nat):Int),0):=by
 have hl:(decide (un<0)||decide (un>10000))=false:=by simp;omega
 have Ns:¬(eT L O=false):=by rw[hc];simp
 rw[di,if_neg Ns,hl,if_neg (by simp)]
theorem Kh{L:List Pt}{O:List Po}{M:List Nt}{n:Nat}(hn:n≤M.length):(di L O M 400).2.2=(di L O (M.take n) (EY (M.take n))).2.2∧
  ((di L O M 400).2.2=0→((di L O M 400).1>1∧(di L O M 400).2.1<(n:Nat)∧(di L O (M.take n) (EY (M.take n))).1=(di L O M 400).1∧(di L O (M.take n) (EY (M.take n))).2.1=(di L O M 400).2.1)∨
   (¬((di L O M 400).1>1∧(di L O M 400).2.1<(n:Nat))∧(((di L O M 400).1=1∧(di L O M 400).2.1<(n:Nat))∨(di L O (M.take n) (EY (M.take n))).1=0∨(di L O (M.take n) (EY (M.take n))).2.1≥(n:Nat)))):=by
 cases hc:eT L O with
 |false=>
  have h1:∀l un,di L O l un=(0,0,50):=fun l un=>by rw[di,if_pos hc]
  rw[h1,h1];exact⟨rfl,fun h=>by simp at h⟩
 |true=>
  obtain⟨⟨u0,u4⟩,hu⟩:=EZ (M.take n) 0 (Int.le_refl _) (by omega);rw[DU hc (by omega) (by omega),DU (l:=M.take n) (un:=EY (M.take n)) hc u0 (by show EY (M.take n)≤10000;have:EY (M.take n)≤400:=u4;omega)];have hun:jh 400 0 (qU L) (M.take n)=jh (EY (M.take n)) 0 (qU L) (M.take n):=MF hu;have hlen:(M.take n).length=n:=by rw[List.length_take];omega
  have hM:jh 400 0 (qU L) M=match jh 400 0 (qU L) (M.take n) with|.inl r=>.inl r|.inr s'=>jh 400 (0+(M.take n).length) s' (M.drop n):=by
   rw[←HS,List.take_append_drop]
  rw[hun,hlen,Nat.zero_add] at hM;generalize EY (M.take n)=U at*;cases hr:jh U 0 (qU L) (M.take n) with
  |inl r=>
   rw[hr] at hM;simp only at hM;have hp:=EJ hr;have hlt:=(Gy hr).2;rw[hlen,Nat.zero_add] at hlt;have e1:fj 400 (qU L) M=r:=by unfold fj;rw[hM]
   have e2:fj U (qU L) (M.take n)=r:=by unfold fj;rw[hr]
   have hz:¬((r.1==0)=true):=by simp;omega
   rw[e1,e2,if_neg hz];refine⟨rfl,fun _=>?_⟩;by_cases h1:r.1>1
   ·exact .inl ⟨h1,by show((r.2:Nat):Int)<_;omega,rfl,rfl⟩
   ·exact .inr ⟨fun h=>h1 h.1,.inl ⟨by show r.1=1;omega,by show((r.2:Nat):Int)<_;omega⟩⟩
  |inr st=>
   rw[hr] at hM;simp only at hM;have e2:(fj U (qU L) (M.take n)).1=0∨(fj U (qU L) (M.take n)).2=n:=by
    unfold fj;rw[hr];simp only;cases nV st.1.length (U-st.2.2.1).toNat st.2.1 st.2.2.1 st.2.2.2.1 st.2.2.2.2 with
    |inl q=>exact .inr hlen
    |inr q=>exact .inl rfl
   have e1:(fj 400 (qU L) M).1=0∨n≤(fj 400 (qU L) M).2:=by
    unfold fj;rw[hM];cases Aj:jh 400 n st (M.drop n) with
    |inl q=>exact .inr (Gy Aj).1
    |inr q=>
     simp only;cases nV q.1.length (400-q.2.2.1).toNat q.2.1 q.2.2.1 q.2.2.2.1 q.2.2.2.2 with
     |inl z=>exact .inr hn
     |inr z=>exact .inl rfl
   generalize fj U (qU L) (M.take n)=a at*;generalize fj 400 (qU L) M=b at*;have ha:∀a:Int×Nat,(if(a.1==0)=true then((0:Int),(0:Int),(0:Int)) else(a.1,((a.2:Nat):Int),0)).2.2=0:=fun a=>by split<;>rfl
   refine⟨by rw[ha,ha],fun _=>.inr ⟨?_,?_⟩⟩
   ·rintro⟨h1,h2⟩;by_cases hz:(b.1==0)=true
    ·rw[if_pos hz] at h1;simp at h1
    ·rw[if_neg hz] at h2;simp only at h2;rcases e1 with e1|e1
     ·exact hz (by rw[e1];rfl)
     ·omega
   ·refine .inr ?_;by_cases hz:(a.1==0)=true
    ·rw[if_pos hz];exact .inl rfl
    ·rw[if_neg hz];rcases e2 with e2|e2
     ·exact absurd (by rw[e2];rfl) hz
     ·exact .inr (by show((a.2:Nat):Int)≥_;omega)
theorem WC{k:Nat}{M:List Nt}{n:Nat}(hn:n≤M.length)(hM:M.length≤17592186044416){h:Heap}{B:Nat}{Q:AX→Env→Heap→Prop}{Y3 Y7 Y8 Y9:AV}
  (hQ:∀e',aP e' [(1,.fz k (b8 M)),(3,Y3),(7,Y7),(8,Y8),(9,Y9),(10,.int .i64 ((n:Nat):Int)),(11,.int .i64 (EY (M.take n)))]→Q (.exit 0) e' h):
  ∀(m j:Nat) (env:Env),n-j=m→j≤n→aP env [(1,.fz k (b8 M)),(3,Y3),(7,Y7),(8,Y8),(9,Y9),(10,.int .i64 ((n:Nat):Int)),(11,.int .i64 (EY (M.take j))),(12,.int .i64 ((j:Nat):Int))]→
  VC fs ms B false (.loop fW) env h Q:=by
 intro m;induction m using Nat.strongRecOn with
 |ind m ih=>
 intro j env hm hj cH;refine ak 4 _ cH ?_;refine bJ (aj true ?_);conv=>whnf
 refine br (fun hc=>?_) (fun hc=>?_)<;>(try rw[hc])<;>(conv=>whnf)
 ·have hlt:j<n:=by have:=of_decide_eq_true hc;omega
  have V5:j<M.length:=by omega
  refine aa (z:=true) ?_;conv=>whnf
  refine⟨_,kF V5,?_⟩;conv=>whnf
  refine⟨.int .i64 M[j].a,rfl,?_⟩;have J1:∀a u:Int,(bif decide ((bif decide (400<a) then(400:Int) else a)>u) then(bif decide (400<a) then(400:Int) else a) else u)=max u (min a 400):=by
   intro a u;by_cases h1:400<a
   ·rw[decide_eq_true h1,cond_true];by_cases h2:(400:Int)>u
    ·rw[decide_eq_true h2,cond_true];omega
    ·rw[decide_eq_false h2,cond_false];omega
   ·rw[decide_eq_false h1,cond_false];by_cases h2:a>u
    ·rw[decide_eq_true h2,cond_true];omega
    ·rw[decide_eq_false h2,cond_false];omega
  conv=>whnf
  rw[J1];exact ih (n-(j+1)) (by omega) (j+1) _ rfl (by omega) ⟨rfl,rfl,rfl,rfl,rfl,rfl,by rw[Nd V5];rfl,ay (by omega),trivial⟩
 ·have hge:j=n:=by have:=of_decide_eq_false hc;omega
  subst hge;exact hQ _ ⟨rfl,rfl,rfl,rfl,rfl,rfl,rfl,trivial⟩
theorem CD(k:Nat)(L:List Pt)(ko:Nat)(O:List Po)(kl:Nat)(l:List Nt)(at_:Int)(hf:Fits L O)(hk:k=3→L=[])(hl:l.length*64≤140737488355328):
  PC fs ms 5 [cfg k L ko O,.fz kl (b8 l),.int .i64 at_] (.bool true):=by
 refine aX (by simp[bL,oK,AV.cl,nG]) rfl ?_;generalize(⟨0,.nil⟩:Heap)=h0;refine bw (af:=C5) rfl (Nat.le_of_ble_eq_true rfl) ?_;generalize hQ:(fun(v:AV) (_:Heap)=>v=.bool true)=Q;have hend:∀h,Q (.bool true) h:=by subst hQ;intro h;rfl
 clear hQ;conv=>whnf
 refine aj true ?_;conv=>whnf
 have g1:(h0.new (.cells (cfg k L ko O).cells true 0)).get h0.next=some (.cells [.fz k (pts L),.fz ko (pos O)] true 0):=an;generalize h0.new (.cells (cfg k L ko O).cells true 0)=h1 at*;generalize h0.next=p3 at*;have hfz:jo (· ∈[p3]) h1 (.ptr p3 0) (.fp [.fz k (pts L),.fz ko (pos O)] 0):=.ptr' (by simp) g1 (.clean (by simp[bL,AV.cl,bz,fk]));refine dV [p3] (i:=3) rfl hfz ?_;generalize ck [p3] h1=h2;clear g1 hfz;refine ak 4 [(1,.fz kl (b8 l)),(2,.int .i64 at_),(3,.fp [.fz k (pts L),.fz ko (pos O)] 0)] ⟨rfl,rfl,rfl,trivial⟩ ?_;obtain⟨n0,hn0,J2⟩:∃n:Nat,(bif decide ((200:Int)<((l.length:Nat):Int)) then(200:Int) else((l.length:Nat):Int))=((n:Nat):Int)∧n≤l.length:=by
  by_cases h:200<l.length
  ·exact⟨200,by rw[decide_eq_true (by omega)];rfl,by omega⟩
  ·exact⟨l.length,by rw[decide_eq_false (by omega)];rfl,Nat.le_refl _⟩
 refine aj true ?_;conv=>whnf
 rw[bU];rw[hn0];refine⟨_,DI J2,?_⟩;conv=>whnf
 have hM:(l.take n0).length≤17592186044416:=by rw[List.length_take];omega
 generalize l.take n0=M at*;generalize cV kl false n0 l.length l.length=k1 at*;have hj:=qh (k:=k) (ko:=ko) (kl:=k1) hf hk hM 400;refine aj true ?_;conv=>whnf
 refine⟨cfg k L ko O,rfl,?_⟩;conv=>whnf
 refine au hj ?_;conv=>whnf
 obtain⟨n,hn,hnM⟩:∃n:Nat,yx at_ ((M.length:Nat)+1)=((n:Nat):Int)∧n≤M.length:=by
  have h1:=Int.emod_nonneg at_ (show((M.length:Nat):Int)+1≠0 by omega);have h2:=Int.emod_lt_of_pos at_ (show(0:Int)<((M.length:Nat):Int)+1 by omega);exact⟨(yx at_ ((M.length:Nat)+1)).toNat,by show _=((at_%_).toNat:Int);unfold yx;omega,by unfold yx;omega⟩
 have hb:=OE at_ ((M.length:Nat)+1) (by omega) (by omega);rw[hn] at hb;refine aj true ?_;conv=>whnf
 rw[bU,show IntKind.i64.wrap (((M.length:Nat):Int)+1)=((M.length:Nat):Int)+1 from IntWalk.i64_in _ (by omega)];refine au hb ?_;conv=>whnf
 refine aj true ?_;conv=>whnf
 refine az (aj true ?_);conv=>whnf
 refine aL ?_;have hA:=Kh (L:=L) (O:=O) hnM;refine WC (k:=k1) (M:=M) (n:=n) hnM hM (Y3:=.fp [.fz k (pts L),.fz ko (pos O)] 0) (Y7:=.int .i64 (di L O M 400).1) (Y8:=.int .i64 (di L O M 400).2.1) (Y9:=.int .i64 (di L O M 400).2.2) (fun e' he=>?_) n 0 _ rfl (Nat.zero_le _) ⟨rfl,rfl,rfl,rfl,rfl,rfl,rfl,rfl,trivial⟩;have hj2:=qh (k:=k) (ko:=ko) (kl:=cV k1 false n M.length M.length) (L:=L) (O:=O) (l:=M.take n) hf hk (by rw[List.length_take];omega) (EY (M.take n));generalize di L O (M.take n) (EY (M.take n))=s at*;generalize di L O M 400=r at*;obtain⟨r1,r2,r3⟩:=r;obtain⟨s1,s2,s3⟩:=s;simp only at hA hj2;obtain⟨hA1,hA2⟩:=hA;subst hA1;show VC fs ms _ _ _ _ _ _;refine ak 4 _ he ?_;clear he hj;refine aj true ?_;conv=>whnf
 refine⟨cfg k L ko O,rfl,?_⟩;conv=>whnf
 refine⟨_,DI hnM,?_⟩;conv=>whnf
 refine au hj2 ?_;conv=>whnf
 refine az (VC.mono (Q:=fun y e h=>h=h2∧((y=.ret∧Tr.get e 6=some (.bool true))∨(y=.normal∧r3=0∧aP e [(7,.int .i64 r1),(8,.int .i64 r2),(10,.int .i64 ((n:Nat):Int)),(13,.int .i64 s1),(14,.int .i64 s2)]))) ?_ ?_)
 ·have Bx:∀a:Int,(a==a)=true:=fun a=>by simp
  refine aa (z:=true) ?_;conv=>whnf
  refine br (fun hc=>?_) (fun hc=>?_)<;>(try rw[hc])<;>(conv=>whnf)
  ·refine kO (Bx _) (fun hc=>?_)
   (try rw[hc])
   conv=>whnf
   refine au lK ?_;conv=>whnf
   exact⟨rfl,.inl ⟨rfl,rfl⟩⟩
  ·refine br (fun hc=>?_) (fun hc=>?_)<;>(try rw[hc])<;>(conv=>whnf)
   ·refine kO (Bx _) (fun hc=>?_)
    (try rw[hc])
    conv=>whnf
    refine au lK ?_;conv=>whnf
    exact⟨rfl,.inl ⟨rfl,rfl⟩⟩
   ·exact⟨rfl,.inr ⟨rfl,by simpa using hc,rfl,rfl,rfl,rfl,rfl,trivial⟩⟩
 rintro y e h ⟨rfl,⟨rfl,g6⟩|⟨rfl,h3,he⟩⟩
 ·exact ez g6 (hend _)
 have hA:=hA2 h3;show VC fs ms _ _ _ _ _ _;refine ak 4 _ he ?_;clear he;rcases hA with⟨a1,a2,a3,a4⟩|⟨a1,a2⟩
 ·have c1:decide (r1>1)=true:=decide_eq_true a1;have c2:decide (r2<((n:Nat):Int))=true:=decide_eq_true a2;have c3:(s1==r1)=true:=by simpa using a3
  have c4:(s2==r2)=true:=by simpa using a4
  refine aa (z:=true) ?_;conv=>whnf
  refine kO (c1) (fun hc=>?_)
  (try rw[hc])
  conv=>whnf
  refine kO (c2) (fun hc=>?_)
  (try rw[hc])
  conv=>whnf
  refine kO (c3) (fun hc=>?_)
  (try rw[hc])
  conv=>whnf
  refine kO (c4) (fun hc=>?_)
  (try rw[hc])
  conv=>whnf
  refine au lK ?_;conv=>whnf
  exact hend _
 ·refine az (VC.mono (Q:=fun y e h'=>h'=h∧y=.normal∧aP e [(7,.int .i64 r1),(8,.int .i64 r2),(10,.int .i64 ((n:Nat):Int)),(13,.int .i64 s1),(14,.int .i64 s2)]) ?_ ?_)
  ·refine aa (z:=true) ?_;conv=>whnf
   refine br (fun hc=>?_) (fun hc=>?_)<;>(try rw[hc])<;>(conv=>whnf)
   ·have h1:=of_decide_eq_true hc;refine lY (by simpa using fun h2=>a1 ⟨h1,h2⟩) (fun hc=>?_)
    (try rw[hc])
    conv=>whnf
    exact⟨rfl,rfl,rfl,rfl,rfl,rfl,rfl,trivial⟩
   ·exact⟨rfl,rfl,rfl,rfl,rfl,rfl,rfl,trivial⟩
  rintro y e h' ⟨rfl,rfl,he⟩;show VC fs ms _ _ _ _ _ _;refine ak 4 _ he (aa (z:=true) ?_);clear he;have jM:(((r1==1)&&decide (r2<((n:Nat):Int)))||((s1==0)||decide (s2≥((n:Nat):Int))))=true:=by
   rcases a2 with⟨b1,b2⟩|b|b
   ·rw[b1,decide_eq_true b2];rfl
   ·rw[b];simp
   ·rw[decide_eq_true b];simp
  conv=>whnf
  iterate 5 (all_goals (first|(refine au lK ?_;conv=>whnf)|(refine br (fun hc=>?_) (fun hc=>?_)<;>(try rw[hc])<;>(conv=>whnf))|skip))
  all_goals (first|exact hend _|(exfalso;simp only[*] at jM;simp at jM;done))
end Ir
end Go.Proofs.Ytepdklcpagielaa
