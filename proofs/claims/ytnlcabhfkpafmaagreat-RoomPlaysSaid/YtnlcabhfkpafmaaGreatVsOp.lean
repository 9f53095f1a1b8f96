/-
  The pure operations of Vs, done in Ads.
-/
import Derived.Test.YtnlcabhfkpafmaaGreatVsRel
set_option linter.unusedVariables false
set_option linter.unusedSimpArgs false
namespace Go.Proofs.YtnlcabhfkpafmaaGreat
namespace Ads
theorem eR{α:Type}{args:List AV}{f:AV→Option α}{v:α}(h:l1 args f=some v):∃x,args=[x]∧f x=some v:=by
 rcases args with _|⟨x,_|⟨y,r⟩⟩<;>simp_all[l1]
theorem nR{α:Type}{args:List AV}{f:AV→AV→Option α}{v:α}(h:l2 args f=some v):∃x y,args=[x,y]∧f x y=some v:=by
 rcases args with _|⟨x,_|⟨y,_|⟨z,r⟩⟩⟩<;>simp[l2] at h⊢;exact⟨_,_,⟨rfl,rfl⟩,h⟩
theorem NA{α:Type}{args:List AV}{f:AV→AV→AV→Option α}{v:α}(h:l3 args f=some v):∃x y z,args=[x,y,z]∧f x y z=some v:=by
 rcases args with _|⟨x,_|⟨y,_|⟨z,_|⟨u,r⟩⟩⟩⟩<;>simp[l3] at h⊢;exact⟨_,_,_,⟨rfl,rfl,rfl⟩,h⟩
theorem sE{α:Type}{args:List AV}{f:AV→List AV→Option α}{v:α}(h:lc args f=some v):∃x r,args=x::r∧f x r=some v:=by
 rcases args with _|⟨x,r⟩<;>simp[lc] at h⊢;exact⟨_,_,⟨rfl,rfl⟩,h⟩
theorem yc{α:Type}{x:AV}{f:IntKind→Int→Option α}{v:α}(h:CB x f=some v):∃k n,x=.int k n∧f k n=some v:=by
 cases x<;>simp[CB] at h⊢;exact⟨_,_,⟨rfl,rfl⟩,h⟩
theorem vB{α:Type}{x:AV}{f:Bool→Option α}{v:α}(h:D1 x f=some v):∃b,x=.bool b∧f b=some v:=by
 cases x<;>simp_all[D1]
theorem pU{α:Type}{x:AV}{f:List UInt8→Option α}{v:α}(h:CD x f=some v):∃b,x=.str b∧f b=some v:=by
 cases x<;>simp_all[CD]
theorem Fz{α:Type}{x:AV}{f:Nat→Nat→Option α}{v:α}(h:Fy x f=some v):∃b o,x=.ptr b o∧f b o=some v:=by
 cases x<;>simp[Fy] at h⊢;exact⟨_,_,⟨rfl,rfl⟩,h⟩
theorem yb{α:Type}{x:AV}{f:List AV→Option α}{v:α}(h:MQ x f=some v):∃b,x=.agg b∧f b=some v:=by
 cases x<;>simp_all[MQ]
theorem FA{α:Type}{x:AV}{f:List AV→Option α}{v:α}(h:Ql x f=some v):∃b,x=.cq b∧f b=some v:=by
 cases x<;>simp_all[Ql]
theorem lg{α:Type}{x:AV}{f:Nat→Option α}{v:α}(h:tn x f=some v):∃k m,x=.int k (Int.ofNat m)∧f m=some v:=by
 unfold tn at h;cases x with
 |int k n=>cases n with
  |ofNat m=>exact⟨k,m,rfl,h⟩
  |negSucc m=>simp[asNat] at h
 |_=>simp[asNat] at h
section
variable {s:Nat→Nat} {n:Nat} {F:Nat→Prop} {h:Heap}
theorem bf.one{x:AV}{l:List AV}(r:bf s n F h [x] l):∃y,l=[y]∧Rel s n F h x y:=by
 obtain⟨y,l',rfl,h1,h2⟩:=r.cons_inv;rw[h2.mB];exact⟨y,rfl,h1⟩
theorem bf.two{x y:AV}{l:List AV}(r:bf s n F h [x,y] l):∃x' y',l=[x',y']∧Rel s n F h x x'∧Rel s n F h y y':=by
 obtain⟨x',l',rfl,h1,h2⟩:=r.cons_inv;obtain⟨y',rfl,h3⟩:=h2.one;exact⟨x',y',rfl,h1,h3⟩
theorem bf.three{x y z:AV}{l:List AV}(r:bf s n F h [x,y,z] l):∃x' y' z',l=[x',y',z']∧Rel s n F h x x'∧Rel s n F h y y'∧Rel s n F h z z':=by
 obtain⟨x',l',rfl,h1,h2⟩:=r.cons_inv;obtain⟨y',z',rfl,h3,h4⟩:=h2.two;exact⟨x',y',z',rfl,h1,h3,h4⟩
theorem bf.iN{l l':List AV}(r:bf s n F h l l')(hp:mc l=true):l'=l:=by
 have:Rel s n F h (.agg l) (.agg l'):=.agg r.1 r.2;have:=this.iN (by simpa[AV.pl] using hp);simpa using this
theorem BP{cs cs':List AV}{off m:Nat}{g:Bool}{v:AV}(r:bf s n F h cs cs')(hp:part cs off m g=some v):∃v',part cs' off m g=some v'∧Rel s n F h v v':=by
 cases g with
 |true=>
  simp only[part,cond_true] at hp⊢;cases hb:Nat.ble (off+m) cs.length with
  |false=>simp[hb] at hp
  |true=>
   simp only[hb,cond_true,Option.some.injEq] at hp;subst hp;rw[←r.1,hb];exact⟨_,rfl,.agg ((r.drop off).take m).1 ((r.drop off).take m).2⟩
 |false=>
  simp only[part,cond_false] at hp⊢;exact r.get hp
theorem vI:∀{ps:List (Nat×Nat)} {zs zs':List AV} {vs vs' cs:List AV},bf s n F h zs zs'→bf s n F h vs vs'→fill zs ps vs=some cs→∃cs',fill zs' ps vs'=some cs'∧bf s n F h cs cs'
 |[],zs,zs',[],vs',cs,r,q,hf=>by
  rw[q.mB];simp only[fill,Option.some.injEq] at hf⊢;subst hf;exact⟨zs',rfl,r⟩
 |[],zs,zs',v::vs,vs',cs,r,q,hf=>by simp[fill] at hf
 |(o,m)::ps,zs,zs',[],vs',cs,r,q,hf=>by simp[fill] at hf
 |(o,m)::ps,zs,zs',v::vs,vs',cs,r,q,hf=>by
  obtain⟨w,ws,rfl,h1,h2⟩:=q.cons_inv;simp only[fill] at hf⊢;have kY:=h1.cells;rw[←kY.1,←r.1];cases hb:(Nat.beq v.cells.length m&&Nat.ble (o+m) zs.length) with
  |false=>simp[hb] at hf
  |true=>
   simp only[hb,cond_true] at hf⊢;simp only[Bool.and_eq_true] at hb;have e1:=Nat.eq_of_beq_eq_true hb.1;have e2:=Nat.le_of_ble_eq_true hb.2;exact vI (r.splice kY o (by omega)) h2 hf
theorem Fq{op:BinOp}{k:IntKind}{x y:Int}{v:AV}(hv:qU op k x y=some v):v.pl=true:=by
 cases op<;>simp only[qU] at hv
 case quo|rem=>
  by_cases hy:y=0
  ·simp[hy] at hv
  ·simp[hy] at hv;subst hv;rfl
 all_goals (simp at hv;try(subst hv;rfl))
theorem MC{op:BinOp}{x y v:AV}(hv:xk op x y=some v):x.pl=true∧y.pl=true∧v.pl=true:=by
 cases x<;>cases y<;>simp only[xk] at hv<;>try(simp at hv;done)
 ·rename_i k a k' b;refine⟨rfl,rfl,?_⟩;cases hs:mq op with
  |true=>
   simp only[hs,cond_true,r5] at hv;by_cases hb:b<0
   ·simp[hb] at hv
   ·simp only[hb,decide_false,cond_false] at hv;split at hv<;>simp at hv<;>subst hv<;>rfl
  |false=>
   simp only[hs,cond_false] at hv;by_cases hk:k=k'
   ·simp only[hk,decide_true,cond_true] at hv;exact Fq hv
   ·simp[hk] at hv
 ·refine⟨rfl,rfl,?_⟩;rename_i a b;cases op<;>simp only[zh] at hv
  case add=>
   cases hb:Nat.ble (a.length+b.length) 9223372036854775807 with
   |false=>simp[hb] at hv
   |true=>simp[hb] at hv;subst hv;rfl
  all_goals (simp at hv;try(subst hv;rfl))
theorem vK{f:AV→AV→Option AV}(hf:∀x y z,f x y=some z→x.pl=true∧y.pl=true∧z.pl=true):∀{l:List AV} {x v:AV},kN f x l=some v→(l=[]→x.pl=true)→x.pl=true∧mc l=true∧v.pl=true
 |[],x,v,hv,hx=>by simp[kN] at hv;subst hv;exact⟨hx rfl,rfl,hx rfl⟩
 |y::l,x,v,hv,_=>by
  simp only[kN] at hv;cases hz:f x y with
  |none=>simp[hz] at hv
  |some z=>
   simp only[hz] at hv;obtain⟨g1,g2,g3⟩:=hf x y z hz;obtain⟨g4,g5,g6⟩:=vK hf hv (fun _=>g3);exact⟨g1,by simp[mc,g2,g5],g6⟩
theorem NJ(x y z:AV)(hz:max2 x y=some z):x.pl=true∧y.pl=true∧z.pl=true:=by
 cases x<;>cases y<;>simp[max2] at hz<;>subst hz<;>exact⟨rfl,rfl,rfl⟩
theorem NL(x y z:AV)(hz:min2 x y=some z):x.pl=true∧y.pl=true∧z.pl=true:=by
 cases x<;>cases y<;>simp[min2] at hz<;>subst hz<;>exact⟨rfl,rfl,rfl⟩
def jo(f:Bool)(d:Nat)(l:List AV):Option (Nat×List AV):=
 match f,l with
 |false,l=>some (d,l)
 |true,v::l=>(asNat v).map fun n=>(n,l)
 |true,[]=>none
theorem th(len cap:Nat)(lo hi mx:Bool)(args:List AV):bounds len cap lo hi mx args=match jo lo 0 args with
 |none=>none
 |some (l,r)=>match jo hi len r with
  |none=>none
  |some (h,r)=>match jo mx cap r with
   |none=>none
   |some (m,_)=>cond (Nat.ble l h&&Nat.ble h m&&Nat.ble m cap) (some (l,h,m)) none:=rfl
theorem tM{f:Bool}{d:Nat}{l l':List AV}(r:bf s n F h l l'){k:Nat}{m:List AV}(hh:jo f d l=some (k,m)):∃m',jo f d l'=some (k,m')∧bf s n F h m m':=by
 cases f with
 |false=>simp only[jo,Option.some.injEq,Prod.mk.injEq] at hh⊢;obtain⟨rfl,rfl⟩:=hh;exact⟨l',⟨rfl,rfl⟩,r⟩
 |true=>
  cases l with
  |nil=>simp[jo] at hh
  |cons x l=>
   obtain⟨y,m',rfl,h1,h2⟩:=r.cons_inv;simp only[jo,Option.map_eq_some_iff,Prod.mk.injEq] at hh⊢;obtain⟨a,ha,rfl,rfl⟩:=hh;refine⟨m',⟨a,?_,rfl,rfl⟩,h2⟩;cases x<;>simp[asNat] at ha
   cases h1
   exact ha
theorem gH{len cap:Nat}{lo hi mx:Bool}{l l':List AV}{t:Nat×Nat×Nat}(r:bf s n F h l l')(hb:bounds len cap lo hi mx l=some t):bounds len cap lo hi mx l'=some t:=by
 rw[th] at hb⊢;cases e1:jo lo 0 l with
 |none=>simp[e1] at hb
 |some p1=>
 obtain⟨a,m1⟩:=p1;obtain⟨m1',lJ,r1⟩:=tM r e1;simp only[e1] at hb;simp only[lJ];cases e2:jo hi len m1 with
 |none=>simp[e2] at hb
 |some p2=>
 obtain⟨b,m2⟩:=p2;obtain⟨m2',sX,r2⟩:=tM r1 e2;simp only[e2] at hb;simp only[sX];cases e3:jo mx cap m2 with
 |none=>simp[e3] at hb
 |some p3=>
 obtain⟨c,m3⟩:=p3;obtain⟨m3',xw,r3⟩:=tM r2 e3;simp only[e3] at hb;simp only[xw];exact hb
theorem cU:∀{l:List AV} {z i:Nat} {x:AV},aO z l=true→l[i]?=some x→x.cells.length=z
 |[],z,i,x,_,hx=>by simp at hx
 |y::l,z,0,x,hp,hx=>by simp at hx;subst hx;simp only[aO,Bool.and_eq_true] at hp;exact Nat.eq_of_beq_eq_true hp.1
 |y::l,z,i+1,x,hp,hx=>by simp only[aO,Bool.and_eq_true] at hp;exact cU hp.2 (by simpa using hx)
theorem jY{z:Nat}:∀{l:List AV},aO z l=true↔∀(i:Nat) (x:AV),l[i]?=some x→x.cells.length=z
 |[]=>by simp[aO]
 |y::l=>by
  constructor
  ·intro hp i x hx;exact cU hp hx
  ·intro hp;simp only[aO,Bool.and_eq_true];exact⟨by rw[hp 0 y rfl];simp,jY.2 fun i x hx=>hp (i+1) x (by simpa using hx)⟩
theorem qS{l:List AV}{a b:Nat}(h1:aO a l=true)(h2:aO b l=true)(hne:l≠[]):a=b:=by
 cases l with
 |nil=>exact absurd rfl hne
 |cons x l=>
  have e1:=cU (i:=0) h1 rfl;have e2:=cU (i:=0) h2 rfl;omega
theorem Rel.sB{k:IntKind}{i:Int}{w:AV}(r:Rel s n F h (.int k i) w):w=.int k i:=by cases r;rfl
theorem Rel.AM{b:Bool}{w:AV}(r:Rel s n F h (.bool b) w):w=.bool b:=by cases r;rfl
theorem fP{o:qx}{vals vals':List AV}{v:AV}(r:bf s n F h vals vals')(hp:pI o vals=some v)(hl:mc vals=true)(hv:v.pl=true):∃v',pI o vals'=some v'∧Rel s n F h v v':=by
 rw[r.iN hl];exact⟨v,hp,.dX hv⟩
theorem kR{len cap:Nat}{lo hi mx:Bool}{l:List AV}{a b c:Nat}(hb:bounds len cap lo hi mx l=some (a,b,c)):a≤b∧b≤c∧c≤cap:=by
 rw[th] at hb;cases e1:jo lo 0 l with
 |none=>simp[e1] at hb
 |some p1=>
 obtain⟨a1,m1⟩:=p1;simp only[e1] at hb;cases e2:jo hi len m1 with
 |none=>simp[e2] at hb
 |some p2=>
 obtain⟨b1,m2⟩:=p2;simp only[e2] at hb;cases e3:jo mx cap m2 with
 |none=>simp[e3] at hb
 |some p3=>
 obtain⟨c1,m3⟩:=p3;simp only[e3] at hb;cases hc:(Nat.ble a1 b1&&Nat.ble b1 c1&&Nat.ble c1 cap) with
 |false=>simp[hc] at hb
 |true=>
  simp only[hc,cond_true,Option.some.injEq,Prod.mk.injEq] at hb;obtain⟨rfl,rfl,rfl⟩:=hb;simp only[Bool.and_eq_true] at hc;exact⟨Nat.le_of_ble_eq_true hc.1.1,Nat.le_of_ble_eq_true hc.1.2,Nat.le_of_ble_eq_true hc.2⟩
theorem AN{len cap:Nat}{lo hi mx:Bool}{l:List AV}{a b c:Nat}(hb:bounds len len lo hi mx l=some (a,b,c))(hle:len≤cap):bounds len cap lo hi mx l=some (a,b,cond mx c cap):=by
 have hf:=kR hb;rw[th] at hb⊢;cases e1:jo lo 0 l with
 |none=>simp[e1] at hb
 |some p1=>
 obtain⟨a1,m1⟩:=p1;simp only[e1] at hb⊢;cases e2:jo hi len m1 with
 |none=>simp[e2] at hb
 |some p2=>
 obtain⟨b1,m2⟩:=p2;simp only[e2] at hb⊢;cases mx with
 |false=>
  simp only[jo] at hb⊢;cases hc:(Nat.ble a1 b1&&Nat.ble b1 len&&Nat.ble len len) with
  |false=>simp[hc] at hb
  |true=>
   simp only[hc,cond_true,Option.some.injEq,Prod.mk.injEq] at hb;obtain⟨rfl,rfl,rfl⟩:=hb;have:(Nat.ble a1 b1&&Nat.ble b1 cap&&Nat.ble cap cap)=true:=by
    simp only[Bool.and_eq_true];exact⟨⟨Nat.ble_eq_true_of_le hf.1,Nat.ble_eq_true_of_le (by omega)⟩,Nat.ble_eq_true_of_le (Nat.le_refl _)⟩
   rw[this];rfl
 |true=>
  have xw:∀d d',jo true d m2=jo true d' m2:=fun _ _=>by cases m2<;>rfl
  rw[xw cap len];cases e3:jo true len m2 with
  |none=>simp[e3] at hb
  |some p3=>
  obtain⟨c1,m3⟩:=p3;simp only[e3] at hb⊢;cases hc:(Nat.ble a1 b1&&Nat.ble b1 c1&&Nat.ble c1 len) with
  |false=>simp[hc] at hb
  |true=>
   simp only[hc,cond_true,Option.some.injEq,Prod.mk.injEq] at hb;obtain⟨rfl,rfl,rfl⟩:=hb;have:(Nat.ble a1 b1&&Nat.ble b1 c1&&Nat.ble c1 cap)=true:=by
    simp only[Bool.and_eq_true];exact⟨⟨Nat.ble_eq_true_of_le hf.1,Nat.ble_eq_true_of_le hf.2.1⟩,Nat.ble_eq_true_of_le (by omega)⟩
   rw[this];rfl
theorem vw{k:Nat}(hk:k≤2):Nat.beq k 3=false:=by
 cases hq:Nat.beq k 3 with
 |false=>rfl
 |true=>have:=Nat.eq_of_beq_eq_true hq;omega
theorem Gz{size:Nat}{lo hi m:Bool}{k:Nat}{l r r':List AV}{w v:AV}(hw:Rel s n F h (.fz k l) w)(q:bf s n F h r r')(hp:wW size lo hi m k l r=some v):
  ∃v',pI (.slice size lo hi m) (w::r')=some v'∧Rel s n F h v v':=by
 cases hw with
 |iL=>
  unfold wW at hp;split at hp
  ·rename_i a hh mm hb;have GL:=kR hb;simp only[List.length_nil] at GL;have ha:a=0:=by omega
   subst ha;have Bc:=gH q hb;simp only[List.length_nil] at Bc;have hv:AV.fz 3 []=v:=by
    simp only[List.length_nil,aO,cond_true,fu,List.drop_nil,List.take_nil,show Nat.beq 3 0=false from rfl,show Nat.beq 3 3=true from rfl,Bool.and_false,Bool.false_and,cond_false,Option.some.injEq] at hp;exact hp
   subst hv;exact⟨.aL,by simp only[pI,Bc],.iL⟩
  ·simp at hp
 |@yx k a hk=>
  unfold wW at hp;split at hp
  ·rename_i a1 hh mm hb;have GL:=kR hb;simp only[List.length_nil] at GL;have ha:a1=0:=by omega
   subst ha;have Bc:=gH q hb;simp only[List.length_nil] at Bc;simp only[List.length_nil,show Nat.beq 0 0=true from rfl,Bool.not_true,Bool.and_false,cond_false,aO,cond_true,List.drop_nil,List.take_nil,Option.some.injEq] at hp;subst hp;refine⟨.gY a,by simp only[pI,Bc],.yx ?_⟩;simp only[fu,vw hk,cond_false];cases m
   ·cases Nat.beq hh 0<;>simp<;>omega
   ·cases Nat.beq mm hh<;>simp
  ·simp at hp
 |@fz _ _ b o len cap op vs wr es z hf hg h1 h2 h3 h4 Ef h5 h6 h7=>
 subst h2;have C0:Nat.beq k 3=false:=by
  cases hq:Nat.beq k 3 with
  |false=>rfl
  |true=>have:=Nat.eq_of_beq_eq_true hq;omega
 have Wy:∀(m:Bool) (hh mm:Nat),fu k m hh mm l.length≤2:=by
  intro m hh mm;simp only[fu,C0,cond_false];cases m
  ·cases Nat.beq hh l.length<;>simp<;>omega
  ·cases Nat.beq mm hh<;>simp
 unfold wW at hp;split at hp
 ·rename_i a hh mm hb;have GL:=kR hb;cases hc:(Nat.beq a l.length&&Nat.beq k 0&&!Nat.beq a 0) with
  |true=>simp[hc] at hp
  |false=>
   simp only[hc,cond_false] at hp;cases hz:aO size l with
   |false=>simp[hz] at hp
   |true=>
    simp only[hz,cond_true,Option.some.injEq] at hp;subst hp;have hb':=gH q (AN hb h4);simp only[pI,hb'];have hk:a=l.length→(op&&!Nat.beq a 0)=false:=by
     intro e;cases Co:Nat.beq a 0 with
     |true=>simp
     |false=>
      rw[Co,e] at hc;simp only[Nat.beq_refl,Bool.true_and,Bool.not_false,Bool.and_true] at hc;rw[h5 (by cases k with|zero=>simp at hc|succ k=>omega)];rfl
    have oy:(Nat.beq (cond m mm cap) a&&Nat.beq cap (cond m mm cap)&&(op&&!m&&!Nat.beq a 0))=false:=by
     cases hq:(Nat.beq (cond m mm cap) a&&Nat.beq cap (cond m mm cap)) with
     |false=>rfl
     |true=>
      simp only[Bool.and_eq_true] at hq;have e1:=Nat.eq_of_beq_eq_true hq.1;have e2:=Nat.eq_of_beq_eq_true hq.2;have Ef:=hk (by omega);have hk4:(op&&!m&&!Nat.beq a 0)=false:=by revert Ef;cases op<;>cases m<;>cases Nat.beq a 0<;>simp
      rw[hk4];rfl
    rw[oy];refine⟨_,rfl,?_⟩;by_cases hne:hh-a=0
    ·
     rw[hne];simp only[List.take_zero];refine .fz (z:=z) (o:=o+cond (Nat.beq (cond m mm cap) a) 0 (a*size)) (vs:=vs) hf hg rfl rfl ?_ (by omega) (Wy _ _ _) ?_ ?_ (fun i x j c y hx=>by simp at hx)
     ·simp only[List.length_nil,Nat.zero_mul,Nat.add_zero];cases Wn:Nat.beq (cond m mm cap) a with
      |true=>simp;omega
      |false=>
       simp only[cond_false];by_cases Iw:l=[]
       ·subst Iw;simp at GL⊢;have:a=0:=by omega
        subst this;simp;omega
       ·have:=qS h1 hz Iw;subst this;have:a*z≤l.length*z:=Nat.mul_le_mul_right _ (by omega);omega
     ·intro xC;cases m with
      |true=>rfl
      |false=>
       simp only[cond_false];simp only[fu,C0,cond_false] at xC;refine h5 ?_;cases hq:Nat.beq hh l.length<;>simp only[hq,cond_true,cond_false] at xC<;>omega
     ·intro hk2;cases m with
      |true=>
       simp only[fu,C0,cond_true,cond_false] at hk2⊢;cases hq:Nat.beq mm hh with
       |false=>simp[hq] at hk2
       |true=>have:=Nat.eq_of_beq_eq_true hq;omega
      |false=>
       simp only[fu,C0,cond_false] at hk2⊢;cases hq:Nat.beq hh l.length with
       |false=>simp only[hq,cond_false] at hk2;omega
       |true=>
        simp only[hq,cond_true] at hk2;have:=h6 hk2;have:=Nat.eq_of_beq_eq_true hq;omega
    ·have Iw:l≠[]:=by rintro rfl;simp at GL;omega
     have Zw:=qS h1 hz Iw;subst Zw;have Za:Nat.beq (cond m mm cap) a=false:=by
      cases hq:Nat.beq (cond m mm cap) a with
      |false=>rfl
      |true=>have:=Nat.eq_of_beq_eq_true hq;cases m<;>simp at this<;>omega
     rw[Za];simp only[cond_false];have Pu:((l.drop a).take (hh-a)).length=hh-a:=by simp;omega
     refine .fz (z:=z) (vs:=vs) hf hg ?_ Pu.symm ?_ ?_ (Wy _ _ _) ?_ ?_ ?_
     ·refine jY.2 fun i x hx=>?_;rw[List.getElem?_take] at hx;split at hx
      ·rw[List.getElem?_drop] at hx;exact cU h1 hx
      ·simp at hx
     ·rw[Pu];have:a*z+(hh-a)*z≤l.length*z:=by rw[←Nat.add_mul];exact Nat.mul_le_mul_right _ (by omega)
      omega
     ·cases m<;>simp<;>omega
     ·intro xC;cases m with
      |true=>rfl
      |false=>
       simp only[cond_false];simp only[fu,C0,cond_false] at xC;refine h5 ?_;cases hq:Nat.beq hh l.length<;>simp only[hq,cond_true,cond_false] at xC<;>omega
     ·intro hk2;cases m with
      |true=>
       simp only[fu,C0,cond_true,cond_false] at hk2⊢;cases hq:Nat.beq mm hh with
       |false=>simp[hq] at hk2
       |true=>have:=Nat.eq_of_beq_eq_true hq;omega
      |false=>
       simp only[fu,C0,cond_false] at hk2⊢;cases hq:Nat.beq hh l.length with
       |false=>simp only[hq,cond_false] at hk2;omega
       |true=>
        simp only[hq,cond_true] at hk2;have:=h6 hk2;have:=Nat.eq_of_beq_eq_true hq;omega
     ·intro i x j c y hx hc hy;rw[List.getElem?_take] at hx;split at hx
      ·rw[List.getElem?_drop] at hx;refine h7 (a+i) x j c y hx hc ?_;rw[←hy]
       congr 1
       rw[Nat.add_mul];omega
      ·simp at hx
 ·simp at hp
theorem yl{s:Nat→Nat}{n:Nat}{F:Nat→Prop}{h:Heap}{k:Nat}{x y x' y':AV}{b:Bool}(r1:Rel s n F h x x')(r2:Rel s n F h y y')(he:uh k x y=some b):uh k x' y'=some b:=by
 unfold uh at he;split at he
 ·cases r1;cases r2;exact he
 ·cases r1;cases r2;exact he
 ·cases r1;cases r2;exact he
 ·simp at he
theorem oR{s:Nat→Nat}{n:Nat}{F:Nat→Prop}{h:Heap}:∀(ks:List Nat) {xs ys xs' ys':List AV} {b:Bool},bf s n F h xs xs'→bf s n F h ys ys'→gu ks xs ys=some b→gu ks xs' ys'=some b
 |[],_,_,_,_,_,_,_,he=>he
 |k::ks,[],_,_,_,_,_,_,he=>by simp[gu] at he
 |k::ks,_::_,[],_,_,_,_,_,he=>by simp[gu] at he
 |k::ks,x::xs,y::ys,[],_,_,r1,_,_=>by have:=r1.1;simp at this
 |k::ks,x::xs,y::ys,_::_,[],_,_,r2,_=>by have:=r2.1;simp at this
 |k::ks,x::xs,y::ys,x'::xs',y'::ys',b,r1,r2,he=>by
  have hx:=r1.2 0 x x' rfl rfl;have hy:=r2.2 0 y y' rfl rfl;have rx:bf s n F h xs xs':=⟨by have:=r1.1;simpa using this,fun i a c ha hc=>r1.2 (i+1) a c (by simpa using ha) (by simpa using hc)⟩;have ry:bf s n F h ys ys':=⟨by have:=r2.1;simpa using this,fun i a c ha hc=>r2.2 (i+1) a c (by simpa using ha) (by simpa using hc)⟩;simp only[gu] at he⊢;split at he
  ·rename_i h1;rw[yl hx hy h1];exact oR ks rx ry he
  ·rename_i h1;rw[yl hx hy h1];exact he
  ·simp at he
theorem Jn{o:qx}{vals vals':List AV}{v:AV}(r:bf s n F h vals vals')(hc:Jp o=true)(hp:pV o vals=some v):∃v',pI o vals'=some v'∧Rel s n F h v v':=by
 cases o with
 |NN=>
  obtain⟨x,rfl,hx⟩:=eR (show l1 vals some=some v from hp);obtain⟨y,rfl,hy⟩:=r.one;cases hx
  exact⟨y,rfl,hy⟩
 |pick=>
  obtain⟨c,a,b,rfl,hx⟩:=NA (show l3 vals _=some v from hp);obtain⟨c',a',b',rfl,h1,h2,h3⟩:=r.three;replace hx:=vB hx;obtain⟨t,rfl,hx⟩:=hx;rw[h1.AM];cases hx
  cases t
  ·exact⟨b',rfl,h3⟩
  ·exact⟨a',rfl,h2⟩
 |bin op=>
  obtain⟨x,y,rfl,hx⟩:=nR (show l2 vals (Hv op)=some v from hp);rw[MD] at hx;obtain⟨g1,g2,g3⟩:=MC hx;exact fP r (show pI (.bin op) [x,y]=some v from hx) (by simp[mc,g1,g2]) g3
 |eq k=>
  simp only[pV] at hp;split at hp
  ·rename_i x y;obtain⟨x',y',rfl,h1,h2⟩:=r.two;split at hp
   ·split at hp
    ·cases hp
     cases h2
     cases h1 with
     |iL=>exact⟨_,rfl,.bool⟩
     |yx hk=>exact⟨_,by rw[vw hk];rfl,.bool⟩
     |fz _ _ _ _ _ _ hk=>exact⟨_,by rw[vw hk];rfl,.bool⟩
    ·simp at hp
   ·split at hp
    ·cases hp;cases h1;cases h2;exact⟨_,rfl,.bool⟩
    ·simp at hp
   ·split at hp
    ·split at hp
     ·cases hp
      cases h1
      cases h2 with
      |iL=>exact⟨_,rfl,.bool⟩
      |yx hk=>exact⟨_,by rw[vw hk];rfl,.bool⟩
      |fz _ _ _ _ _ _ hk=>exact⟨_,by rw[vw hk];rfl,.bool⟩
     ·simp at hp
    ·split at hp
     ·cases hp;cases h1;cases h2;exact⟨_,rfl,.bool⟩
     ·simp at hp
    ·simp only[Option.map_eq_some_iff] at hp;obtain⟨t,ht,rfl⟩:=hp;refine⟨.bool t,?_,.bool⟩;simp only[pI,Option.map_eq_some_iff];refine⟨t,?_,rfl⟩;cases k<;>cases x<;>cases y<;>simp only[Ch] at ht<;>first|(simp at ht;done)|(cases h1;done)|(cases h2;done)|(cases h1;cases h2;exact ht)|(cases h1 with|agg a1 a2=>cases h2 with|agg b1 b2=>exact oR _ ⟨a1,a2⟩ ⟨b1,b2⟩ ht)
  ·simp at hp
 |neq k=>
  simp only[pV] at hp;split at hp
  ·rename_i x y;obtain⟨x',y',rfl,h1,h2⟩:=r.two;split at hp
   ·split at hp
    ·cases hp
     cases h2
     cases h1 with
     |iL=>exact⟨_,rfl,.bool⟩
     |yx hk=>exact⟨_,by rw[vw hk];rfl,.bool⟩
     |fz _ _ _ _ _ _ hk=>exact⟨_,by rw[vw hk];rfl,.bool⟩
    ·simp at hp
   ·split at hp
    ·cases hp;cases h1;cases h2;exact⟨_,rfl,.bool⟩
    ·simp at hp
   ·split at hp
    ·split at hp
     ·cases hp
      cases h1
      cases h2 with
      |iL=>exact⟨_,rfl,.bool⟩
      |yx hk=>exact⟨_,by rw[vw hk];rfl,.bool⟩
      |fz _ _ _ _ _ _ hk=>exact⟨_,by rw[vw hk];rfl,.bool⟩
     ·simp at hp
    ·split at hp
     ·cases hp;cases h1;cases h2;exact⟨_,rfl,.bool⟩
     ·simp at hp
    ·simp only[Option.map_eq_some_iff] at hp;obtain⟨t,ht,rfl⟩:=hp;refine⟨.bool !t,?_,.bool⟩;simp only[pI,Option.map_eq_some_iff];refine⟨t,?_,rfl⟩;cases k<;>cases x<;>cases y<;>simp only[Ch] at ht<;>first|(simp at ht;done)|(cases h1;done)|(cases h2;done)|(cases h1;cases h2;exact ht)|(cases h1 with|agg a1 a2=>cases h2 with|agg b1 b2=>exact oR _ ⟨a1,a2⟩ ⟨b1,b2⟩ ht)
  ·simp at hp
 |not=>
  obtain⟨x,rfl,hx⟩:=eR (show l1 vals _=some v from hp);replace hx:=vB hx;obtain⟨t,rfl,hx⟩:=hx;cases hx
  exact fP r rfl rfl rfl
 |neg=>
  obtain⟨x,rfl,hx⟩:=eR (show l1 vals _=some v from hp);replace hx:=yc hx;obtain⟨k,t,rfl,hx⟩:=hx;cases hx
  exact fP r rfl rfl rfl
 |conv k=>
  obtain⟨x,rfl,hx⟩:=eR (show l1 vals _=some v from hp);replace hx:=yc hx;obtain⟨k,t,rfl,hx⟩:=hx;cases hx
  exact fP r rfl rfl rfl
 |EZ=>
  obtain⟨x,rfl,hx⟩:=eR (show l1 vals _=some v from hp);replace hx:=pU hx;obtain⟨t,rfl,hx⟩:=hx;cases hx
  exact fP r rfl rfl rfl
 |field off m g=>
  obtain⟨x,rfl,hx⟩:=eR (show l1 vals _=some v from hp);replace hx:=yb hx;obtain⟨cs,rfl,hx⟩:=hx;obtain⟨y,rfl,hy⟩:=r.one;cases hy with
  |agg h1 h2=>exact BP ⟨h1,h2⟩ hx
 |ext i=>
  obtain⟨x,rfl,hx⟩:=eR (show l1 vals _=some v from hp);replace hx:=FA hx;obtain⟨cs,rfl,hx⟩:=hx;obtain⟨y,rfl,hy⟩:=r.one;cases hy with
  |cq h1 h2=>exact bf.get ⟨h1,h2⟩ hx
 |o5=>
  obtain⟨x,rfl,hx⟩:=eR (show l1 vals _=some v from hp);obtain⟨y,rfl,hy⟩:=r.one;split at hx
  ·cases hx
   cases hy with
   |fp g1 g2 g3 g4 g5=>exact⟨_,rfl,.fp g1 g2 g3 g4 g5⟩
  ·cases hx
   cases hy with
   |ptr g=>exact⟨_,rfl,.ptr g⟩
  ·simp at hx
 |vH off=>
  obtain⟨x,rfl,hx⟩:=eR (show l1 vals _=some v from hp);obtain⟨y,rfl,hy⟩:=r.one;split at hx
  ·cases hx
   cases hy with
   |fp g1 g2 g3 g4 g5=>exact⟨_,rfl,.fp g1 g2 (by omega) g4 g5⟩
  ·cases hx
   cases hy with
   |ptr g=>exact⟨_,rfl,.ptr g⟩
  ·simp at hx
 |az size=>
  obtain⟨x,i,rfl,hx⟩:=nR (show l2 vals _=some v from hp);obtain⟨x',i',rfl,h1,h2⟩:=r.two;split at hx
  ·rename_i k l;replace hx:=lg hx;obtain⟨kk,m,rfl,hx⟩:=hx;rw[h2.sB];split at hx
   ·rename_i y hy;cases hq:Nat.beq y.cells.length size with
    |false=>simp[hq] at hx
    |true=>
     simp only[hq,cond_true,Option.some.injEq] at hx;subst hx;have hs:=Nat.eq_of_beq_eq_true hq;cases h1 with
     |iL=>simp at hy
     |yx=>simp at hy
     |@fz _ _ b o len cap op vs wr es z hf hg g1 g2 g3 g4 _ g5 g6 g7=>
      have hz:=cU g1 hy;have hzs:z=size:=by omega
      subst hzs;have hm:=(List.getElem?_eq_some_iff.1 hy).1;subst g2;have hmz:m*z+z≤l.length*z:=by rw[←Nat.succ_mul];exact Nat.mul_le_mul_right _ hm
      refine⟨.ptr b (o+m*z),?_,.fp (base:=o+m*z) hf hg rfl (by omega) ?_⟩
      ·simp only[pI,asNat];rw[Nat.ble_eq_true_of_le (by omega)];rfl
      ·intro j c w hc hw;exact g7 m y j c w hy hc (by rw[←hw];congr 1;omega)
   ·simp at hx
  ·replace hx:=lg hx;obtain⟨kk,m,rfl,hx⟩:=hx;rw[h2.sB];rename_i b o len cap op;cases h1 with
   |sl g=>
    cases hq:Nat.ble (m+1) len with
    |false=>simp[hq] at hx
    |true=>
     simp only[hq,cond_true,Option.some.injEq] at hx;subst hx;exact⟨_,by simp only[pI,asNat,hq];rfl,.ptr g⟩
  ·simp at hx
 |kC size len=>
  obtain⟨x,i,rfl,hx⟩:=nR (show l2 vals _=some v from hp);obtain⟨x',i',rfl,h1,h2⟩:=r.two;split at hx
  ·replace hx:=lg hx;obtain⟨kk,m,rfl,hx⟩:=hx;rw[h2.sB];cases hq:Nat.ble (m+1) len with
   |false=>simp[hq] at hx
   |true=>
    simp only[hq,cond_true,Option.some.injEq] at hx;subst hx;cases h1 with
    |fp g1 g2 g3 g4 g5=>exact⟨_,by simp only[pI,asNat,hq];rfl,.fp g1 g2 (by omega) g4 g5⟩
  ·replace hx:=lg hx;obtain⟨kk,m,rfl,hx⟩:=hx;rw[h2.sB];cases hq:Nat.ble (m+1) len with
   |false=>simp[hq] at hx
   |true=>
    simp only[hq,cond_true,Option.some.injEq] at hx;subst hx;cases h1 with
    |ptr g=>exact⟨_,by simp only[pI,asNat,hq];rfl,.ptr g⟩
  ·simp at hx
 |IX size len g=>
  obtain⟨x,i,rfl,hx⟩:=nR (show l2 vals _=some v from hp);obtain⟨x',i',rfl,h1,h2⟩:=r.two;replace hx:=yb hx;obtain⟨cs,rfl,hx⟩:=hx;replace hx:=lg hx;obtain⟨kk,m,rfl,hx⟩:=hx;rw[h2.sB];cases hq:Nat.ble (m+1) len with
  |false=>simp[hq] at hx
  |true=>
   simp only[hq,cond_true] at hx;cases h1 with
   |agg g1 g2=>
    obtain⟨v',rT,hr'⟩:=BP ⟨g1,g2⟩ hx;exact⟨v',by simp only[pI,asNat,hq,cond_true];exact rT,hr'⟩
 |C8=>
  have gZ:=hp;obtain⟨x,i,rfl,hx⟩:=nR (show l2 vals _=some v from hp);replace hx:=pU hx;obtain⟨l,rfl,hx⟩:=hx;replace hx:=lg hx;obtain⟨kk,m,rfl,hx⟩:=hx;simp only[Option.map_eq_some_iff] at hx;obtain⟨b,hb,rfl⟩:=hx;exact fP r (by simp only[pI,asNat,hb,Option.map_some]) rfl rfl
 |build zs ps=>
  have gZ:(fill zs ps vals).map .agg=some v:=hp;simp only[Option.map_eq_some_iff] at gZ;obtain⟨cs,hcs,rfl⟩:=gZ;obtain⟨cs',h1,h2⟩:=vI (zs':=zs) (by
   have:Rel s n F h (.agg zs) (.agg zs):=.dX (by simpa[AV.pl,Jp] using hc);cases this with|agg g1 g2=>exact⟨g1,g2⟩) r hcs
  exact⟨.agg cs',by simp only[pI,h1,Option.map_some],.agg h2.1 h2.2⟩
 |vb t=>
  obtain⟨x,rfl,hx⟩:=eR (show l1 vals _=some v from hp);obtain⟨y,rfl,hy⟩:=r.one;cases hx
  exact⟨_,rfl,.iface hy⟩
 |jP fn m=>
  have gZ:some (AV.func fn (vals.take m) (vals.drop m))=some v:=hp;cases gZ
  exact⟨_,rfl,.func (r.take m).1 (r.take m).2 (r.drop m).1 (r.drop m).2⟩
 |bL=>
  obtain⟨x,rfl,hx⟩:=eR (show l1 vals _=some v from hp);obtain⟨y,rfl,hy⟩:=r.one;split at hx
  ·cases hx
   cases hy with
   |fz g1 g2 g3 g4 g5 g6 _ g7 g8 g9=>subst g4;exact⟨_,rfl,.int⟩
   |iL=>exact⟨_,rfl,.int⟩
   |yx=>exact⟨_,rfl,.int⟩
  ·cases hx
   cases hy with
   |sl g=>exact⟨_,rfl,.int⟩
  ·cases hx
   cases hy
   exact⟨_,rfl,.int⟩
  ·cases hx
   cases hy
   exact⟨_,rfl,.int⟩
  ·simp at hx
 |tL=>
  obtain⟨x,rfl,hx⟩:=eR (show l1 vals _=some v from hp);replace hx:=pU hx;obtain⟨t,rfl,hx⟩:=hx;cases hx
  exact fP r rfl rfl rfl
 |I5 m=>
  have gZ:some (AV.int .i64 m)=some v:=hp;cases gZ
  exact⟨_,by unfold pI;rfl,.int⟩
 |mx=>
  obtain⟨x,l,rfl,hx⟩:=sE (show lc vals _=some v from hp);cases l with
  |nil=>
   obtain⟨y,rfl,hy⟩:=r.one;simp only[kN,Option.some.injEq] at hx;subst hx;exact⟨y,rfl,hy⟩
  |cons z l=>
   obtain⟨g1,g2,g3⟩:=vK NJ hx (fun e=>by simp at e);exact fP r (show pI .mx (x::z::l)=some v from hx) (by simp only[mc,g1,Bool.true_and];exact g2) g3
 |mn=>
  obtain⟨x,l,rfl,hx⟩:=sE (show lc vals _=some v from hp);cases l with
  |nil=>
   obtain⟨y,rfl,hy⟩:=r.one;simp only[kN,Option.some.injEq] at hx;subst hx;exact⟨y,rfl,hy⟩
  |cons z l=>
   obtain⟨g1,g2,g3⟩:=vK NL hx (fun e=>by simp at e);exact fP r (show pI .mn (x::z::l)=some v from hx) (by simp only[mc,g1,Bool.true_and];exact g2) g3
 |slice size lo hi m=>
  obtain⟨x,l,rfl,hx⟩:=sE (show lc vals _=some v from hp);obtain⟨y,l',rfl,h1,h2⟩:=r.cons_inv;split at hx
  ·exact Gz h1 h2 hx
  ·unfold lS at hx;cases x with
   |sl b o len cap op=>
    simp only[KD] at hx;cases h1 with
    |sl g=>
     split at hx
     ·rename_i a hh mm hb;simp only[pI,gH h2 hb];cases hq:(Nat.beq mm a&&Nat.beq cap mm&&(op&&!m&&!Nat.beq a 0)) with
      |true=>
       simp only[hq,cond_true,Option.some.injEq] at hx;subst hx;exact⟨_,rfl,.rest g⟩
      |false=>
       simp only[hq,cond_false,Option.some.injEq] at hx;subst hx;exact⟨_,rfl,.sl g⟩
     ·simp at hx
   |aL=>
    simp only[KD] at hx;cases h1
    split at hx
    ·rename_i hb;cases hx
     simp only[pI,gH h2 hb];exact⟨_,rfl,.aL⟩
    ·simp at hx
   |gY a=>cases h1
   |rest b o k=>
    cases h1 with
    |rest g=>
     have hx:(match bounds 0 0 lo hi m l with|some _=>bif m then none else some (.rest b o k)|none=>none)=some v:=hx;split at hx
     ·rename_i hb;cases m with
      |true=>simp at hx
      |false=>
       simp only[cond_false,Option.some.injEq] at hx;subst hx;simp only[pI,gH h2 hb,cond_false];exact⟨_,rfl,.rest g⟩
     ·simp at hx
   |_=>simp[KD] at hx
 |pE lo hi=>
  obtain⟨x,l,rfl,hx⟩:=sE (show lc vals _=some v from hp);obtain⟨y,l',rfl,h1,h2⟩:=r.cons_inv;replace hx:=pU hx;obtain⟨t,rfl,hx⟩:=hx;cases h1
  split at hx
  ·rename_i a hh mm hb;cases hx
   simp only[pI,gH h2 hb];exact⟨_,rfl,.str⟩
  ·simp at hx
 |pz size len lo hi m=>
  obtain⟨x,l,rfl,hx⟩:=sE (show lc vals _=some v from hp);obtain⟨y,l',rfl,h1,h2⟩:=r.cons_inv;replace hx:=Fz hx;obtain⟨b,o,rfl,hx⟩:=hx;cases h1 with
  |ptr g=>
   split at hx
   ·rename_i a hh mm hb;cases hx
    simp only[pI,gH h2 hb];exact⟨_,rfl,.sl g⟩
   ·simp at hx
 |sU t ok z=>
  obtain⟨x,rfl,hx⟩:=eR (show l1 vals _=some v from hp);obtain⟨y,rfl,hy⟩:=r.one;have hz:Rel s n F h z z:=.dX (by simpa[Jp] using hc);split at hx
  ·rename_i u w;cases hy with
   |iface g=>
    simp only[pI];cases hq:Nat.beq u t with
    |true=>
     simp only[hq,cond_true,Option.some.injEq] at hx⊢;subst hx;refine⟨_,rfl,?_⟩;cases ok
     ·exact g
     ·have:=bf.cons g (bf.cons (x:=.bool true) .bool .nil);exact .cq this.1 this.2
    |false=>
     simp only[hq,cond_false] at hx⊢;cases ok with
     |false=>simp at hx
     |true=>
      simp only[cond_true,Option.some.injEq] at hx⊢;subst hx;have:=bf.cons hz (bf.cons (x:=.bool false) .bool .nil);exact⟨_,rfl,.cq this.1 this.2⟩
  ·cases hy
   simp only[pI];cases ok with
   |false=>simp at hx
   |true=>
    simp only[cond_true,Option.some.injEq] at hx⊢;subst hx;have:=bf.cons hz (bf.cons (x:=.bool false) .bool .nil);exact⟨_,rfl,.cq this.1 this.2⟩
  ·simp at hx
end
end Ads
end Go.Proofs.YtnlcabhfkpafmaaGreat
