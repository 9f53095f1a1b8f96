/-
  The pure operations of Vs, done in Ads.
-/
import Derived.Test.YtmnolnoeibhjgaaGreatVsRel
set_option linter.unusedVariables false
set_option linter.unusedSimpArgs false
namespace Go.Proofs.YtmnolnoeibhjgaaGreat
namespace Ads
theorem eF{α:Type}{args:List AV}{f:AV→Option α}{v:α}(h:l1 args f=some v):∃x,args=[x]∧f x=some v:=by
 rcases args with _|⟨x,_|⟨y,r⟩⟩<;>simp_all[l1]
theorem nL{α:Type}{args:List AV}{f:AV→AV→Option α}{v:α}(h:l2 args f=some v):∃x y,args=[x,y]∧f x y=some v:=by
 rcases args with _|⟨x,_|⟨y,_|⟨z,r⟩⟩⟩<;>simp[l2] at h⊢;exact⟨_,_,⟨rfl,rfl⟩,h⟩
theorem J1{α:Type}{args:List AV}{f:AV→AV→AV→Option α}{v:α}(h:l3 args f=some v):∃x y z,args=[x,y,z]∧f x y z=some v:=by
 rcases args with _|⟨x,_|⟨y,_|⟨z,_|⟨u,r⟩⟩⟩⟩<;>simp[l3] at h⊢;exact⟨_,_,_,⟨rfl,rfl,rfl⟩,h⟩
theorem sr{α:Type}{args:List AV}{f:AV→List AV→Option α}{v:α}(h:lc args f=some v):∃x r,args=x::r∧f x r=some v:=by
 rcases args with _|⟨x,r⟩<;>simp[lc] at h⊢;exact⟨_,_,⟨rfl,rfl⟩,h⟩
theorem xP{α:Type}{x:AV}{f:IntKind→Int→Option α}{v:α}(h:y6 x f=some v):∃k n,x=.int k n∧f k n=some v:=by
 cases x<;>simp[y6] at h⊢;exact⟨_,_,⟨rfl,rfl⟩,h⟩
theorem vh{α:Type}{x:AV}{f:Bool→Option α}{v:α}(h:Dv x f=some v):∃b,x=.bool b∧f b=some v:=by
 cases x<;>simp_all[Dv]
theorem pU{α:Type}{x:AV}{f:List UInt8→Option α}{v:α}(h:Cl x f=some v):∃b,x=.str b∧f b=some v:=by
 cases x<;>simp_all[Cl]
theorem EE{α:Type}{x:AV}{f:Nat→Nat→Option α}{v:α}(h:AA x f=some v):∃b o,x=.ptr b o∧f b o=some v:=by
 cases x<;>simp[AA] at h⊢;exact⟨_,_,⟨rfl,rfl⟩,h⟩
theorem xO{α:Type}{x:AV}{f:List AV→Option α}{v:α}(h:Jn x f=some v):∃b,x=.agg b∧f b=some v:=by
 cases x<;>simp_all[Jn]
theorem EF{α:Type}{x:AV}{f:List AV→Option α}{v:α}(h:NF x f=some v):∃b,x=.dO b∧f b=some v:=by
 cases x<;>simp_all[NF]
theorem kK{α:Type}{x:AV}{f:Nat→Option α}{v:α}(h:qw x f=some v):∃k m,x=.int k (Int.ofNat m)∧f m=some v:=by
 unfold qw at h;cases x with
 |int k n=>cases n with
  |ofNat m=>exact⟨k,m,rfl,h⟩
  |negSucc m=>simp[asNat] at h
 |_=>simp[asNat] at h
section
variable {s:Nat→Nat} {n:Nat} {F:Nat→Prop} {h:Heap}
theorem aX.one{x:AV}{l:List AV}(r:aX s n F h [x] l):∃y,l=[y]∧Rel s n F h x y:=by
 obtain⟨y,l',rfl,h1,h2⟩:=r.cons_inv;rw[h2.l8];exact⟨y,rfl,h1⟩
theorem aX.two{x y:AV}{l:List AV}(r:aX s n F h [x,y] l):∃x' y',l=[x',y']∧Rel s n F h x x'∧Rel s n F h y y':=by
 obtain⟨x',l',rfl,h1,h2⟩:=r.cons_inv;obtain⟨y',rfl,h3⟩:=h2.one;exact⟨x',y',rfl,h1,h3⟩
theorem aX.three{x y z:AV}{l:List AV}(r:aX s n F h [x,y,z] l):∃x' y' z',l=[x',y',z']∧Rel s n F h x x'∧Rel s n F h y y'∧Rel s n F h z z':=by
 obtain⟨x',l',rfl,h1,h2⟩:=r.cons_inv;obtain⟨y',z',rfl,h3,h4⟩:=h2.two;exact⟨x',y',z',rfl,h1,h3,h4⟩
theorem aX.iK{l l':List AV}(r:aX s n F h l l')(hp:kS l=true):l'=l:=by
 have:Rel s n F h (.agg l) (.agg l'):=.agg r.1 r.2;have:=this.iK (by simpa[AV.pl] using hp);simpa using this
theorem Bp{cs cs':List AV}{off m:Nat}{g:Bool}{v:AV}(r:aX s n F h cs cs')(hp:part cs off m g=some v):∃v',part cs' off m g=some v'∧Rel s n F h v v':=by
 cases g with
 |true=>
  simp only[part,cond_true] at hp⊢;cases hb:Nat.ble (off+m) cs.length with
  |false=>simp[hb] at hp
  |true=>
   simp only[hb,cond_true,Option.some.injEq] at hp;subst hp;rw[←r.1,hb];exact⟨_,rfl,.agg ((r.drop off).take m).1 ((r.drop off).take m).2⟩
 |false=>
  simp only[part,cond_false] at hp⊢;exact r.get hp
theorem sg:∀{ps:List (Nat×Nat)} {zs zs':List AV} {vs vs' cs:List AV},aX s n F h zs zs'→aX s n F h vs vs'→fill zs ps vs=some cs→∃cs',fill zs' ps vs'=some cs'∧aX s n F h cs cs'
 |[],zs,zs',[],vs',cs,r,q,hf=>by
  rw[q.l8];simp only[fill,Option.some.injEq] at hf⊢;subst hf;exact⟨zs',rfl,r⟩
 |[],zs,zs',v::vs,vs',cs,r,q,hf=>by simp[fill] at hf
 |(o,m)::ps,zs,zs',[],vs',cs,r,q,hf=>by simp[fill] at hf
 |(o,m)::ps,zs,zs',v::vs,vs',cs,r,q,hf=>by
  obtain⟨w,ws,rfl,h1,h2⟩:=q.cons_inv;simp only[fill] at hf⊢;have ju:=h1.cells;rw[←ju.1,←r.1];cases hb:(Nat.beq v.cells.length m&&Nat.ble (o+m) zs.length) with
  |false=>simp[hb] at hf
  |true=>
   simp only[hb,cond_true] at hf⊢;simp only[Bool.and_eq_true] at hb;have e1:=Nat.eq_of_beq_eq_true hb.1;have e2:=Nat.le_of_ble_eq_true hb.2;exact sg (r.splice ju o (by omega)) h2 hf
theorem EA{op:BinOp}{k:IntKind}{x y:Int}{v:AV}(hv:qT op k x y=some v):v.pl=true:=by
 cases op<;>simp only[qT] at hv
 case quo|rem=>
  by_cases hy:y=0
  ·simp[hy] at hv
  ·simp[hy] at hv;subst hv;rfl
 all_goals (simp at hv;try(subst hv;rfl))
theorem Jg{op:BinOp}{x y v:AV}(hv:xe op x y=some v):x.pl=true∧y.pl=true∧v.pl=true:=by
 cases x<;>cases y<;>simp only[xe] at hv<;>try(simp at hv;done)
 ·rename_i k a k' b;refine⟨rfl,rfl,?_⟩;cases hs:jL op with
  |true=>
   simp only[hs,cond_true,mM] at hv;by_cases hb:b<0
   ·simp[hb] at hv
   ·simp only[hb,decide_false,cond_false] at hv;split at hv<;>simp at hv<;>subst hv<;>rfl
  |false=>
   simp only[hs,cond_false] at hv;by_cases hk:k=k'
   ·simp only[hk,decide_true,cond_true] at hv;exact EA hv
   ·simp[hk] at hv
 ·refine⟨rfl,rfl,?_⟩;rename_i a b;cases op<;>simp only[yY] at hv
  case add=>
   cases hb:Nat.ble (a.length+b.length) 9223372036854775807 with
   |false=>simp[hb] at hv
   |true=>simp[hb] at hv;subst hv;rfl
  all_goals (simp at hv;try(subst hv;rfl))
theorem vt{f:AV→AV→Option AV}(hf:∀x y z,f x y=some z→x.pl=true∧y.pl=true∧z.pl=true):∀{l:List AV} {x v:AV},kq f x l=some v→(l=[]→x.pl=true)→x.pl=true∧kS l=true∧v.pl=true
 |[],x,v,hv,hx=>by simp[kq] at hv;subst hv;exact⟨hx rfl,rfl,hx rfl⟩
 |y::l,x,v,hv,_=>by
  simp only[kq] at hv;cases hz:f x y with
  |none=>simp[hz] at hv
  |some z=>
   simp only[hz] at hv;obtain⟨g1,g2,g3⟩:=hf x y z hz;obtain⟨g4,g5,g6⟩:=vt hf hv (fun _=>g3);exact⟨g1,by simp[kS,g2,g5],g6⟩
theorem J4(x y z:AV)(hz:max2 x y=some z):x.pl=true∧y.pl=true∧z.pl=true:=by
 cases x<;>cases y<;>simp[max2] at hz<;>subst hz<;>exact⟨rfl,rfl,rfl⟩
theorem J5(x y z:AV)(hz:min2 x y=some z):x.pl=true∧y.pl=true∧z.pl=true:=by
 cases x<;>cases y<;>simp[min2] at hz<;>subst hz<;>exact⟨rfl,rfl,rfl⟩
def iV(f:Bool)(d:Nat)(l:List AV):Option (Nat×List AV):=
 match f,l with
 |false,l=>some (d,l)
 |true,v::l=>(asNat v).map fun n=>(n,l)
 |true,[]=>none
theorem s6(len cap:Nat)(lo hi mx:Bool)(args:List AV):bounds len cap lo hi mx args=match iV lo 0 args with
 |none=>none
 |some (l,r)=>match iV hi len r with
  |none=>none
  |some (h,r)=>match iV mx cap r with
   |none=>none
   |some (m,_)=>cond (Nat.ble l h&&Nat.ble h m&&Nat.ble m cap) (some (l,h,m)) none:=rfl
theorem tE{f:Bool}{d:Nat}{l l':List AV}(r:aX s n F h l l'){k:Nat}{m:List AV}(hh:iV f d l=some (k,m)):∃m',iV f d l'=some (k,m')∧aX s n F h m m':=by
 cases f with
 |false=>simp only[iV,Option.some.injEq,Prod.mk.injEq] at hh⊢;obtain⟨rfl,rfl⟩:=hh;exact⟨l',⟨rfl,rfl⟩,r⟩
 |true=>
  cases l with
  |nil=>simp[iV] at hh
  |cons x l=>
   obtain⟨y,m',rfl,h1,h2⟩:=r.cons_inv;simp only[iV,Option.map_eq_some_iff,Prod.mk.injEq] at hh⊢;obtain⟨a,ha,rfl,rfl⟩:=hh;refine⟨m',⟨a,?_,rfl,rfl⟩,h2⟩;cases x<;>simp[asNat] at ha
   cases h1
   exact ha
theorem gz{len cap:Nat}{lo hi mx:Bool}{l l':List AV}{t:Nat×Nat×Nat}(r:aX s n F h l l')(hb:bounds len cap lo hi mx l=some t):bounds len cap lo hi mx l'=some t:=by
 rw[s6] at hb⊢;cases e1:iV lo 0 l with
 |none=>simp[e1] at hb
 |some p1=>
 obtain⟨a,m1⟩:=p1;obtain⟨m1',mN,r1⟩:=tE r e1;simp only[e1] at hb;simp only[mN];cases e2:iV hi len m1 with
 |none=>simp[e2] at hb
 |some p2=>
 obtain⟨b,m2⟩:=p2;obtain⟨m2',BV,r2⟩:=tE r1 e2;simp only[e2] at hb;simp only[BV];cases e3:iV mx cap m2 with
 |none=>simp[e3] at hb
 |some p3=>
 obtain⟨c,m3⟩:=p3;obtain⟨m3',NH,r3⟩:=tE r2 e3;simp only[e3] at hb;simp only[NH];exact hb
theorem cX:∀{l:List AV} {z i:Nat} {x:AV},aL z l=true→l[i]?=some x→x.cells.length=z
 |[],z,i,x,_,hx=>by simp at hx
 |y::l,z,0,x,hp,hx=>by simp at hx;subst hx;simp only[aL,Bool.and_eq_true] at hp;exact Nat.eq_of_beq_eq_true hp.1
 |y::l,z,i+1,x,hp,hx=>by simp only[aL,Bool.and_eq_true] at hp;exact cX hp.2 (by simpa using hx)
theorem jP{z:Nat}:∀{l:List AV},aL z l=true↔∀(i:Nat) (x:AV),l[i]?=some x→x.cells.length=z
 |[]=>by simp[aL]
 |y::l=>by
  constructor
  ·intro hp i x hx;exact cX hp hx
  ·intro hp;simp only[aL,Bool.and_eq_true];exact⟨by rw[hp 0 y rfl];simp,jP.2 fun i x hx=>hp (i+1) x (by simpa using hx)⟩
theorem qR{l:List AV}{a b:Nat}(h1:aL a l=true)(h2:aL b l=true)(hne:l≠[]):a=b:=by
 cases l with
 |nil=>exact absurd rfl hne
 |cons x l=>
  have e1:=cX (i:=0) h1 rfl;have e2:=cX (i:=0) h2 rfl;omega
theorem Rel.sq{k:IntKind}{i:Int}{w:AV}(r:Rel s n F h (.int k i) w):w=.int k i:=by cases r;rfl
theorem Rel.Aq{b:Bool}{w:AV}(r:Rel s n F h (.bool b) w):w=.bool b:=by cases r;rfl
theorem Rel.PY{b:Bool}{v:AV}(r:Rel s n F h v (.bool b)):v=.bool b:=by cases r;rfl
theorem fD{o:pQ}{vals vals':List AV}{v:AV}(r:aX s n F h vals vals')(hp:pI o vals=some v)(hl:kS vals=true)(hv:v.pl=true):∃v',pI o vals'=some v'∧Rel s n F h v v':=by
 rw[r.iK hl];exact⟨v,hp,.dU hv⟩
theorem kz{len cap:Nat}{lo hi mx:Bool}{l:List AV}{a b c:Nat}(hb:bounds len cap lo hi mx l=some (a,b,c)):a≤b∧b≤c∧c≤cap:=by
 rw[s6] at hb;cases e1:iV lo 0 l with
 |none=>simp[e1] at hb
 |some p1=>
 obtain⟨a1,m1⟩:=p1;simp only[e1] at hb;cases e2:iV hi len m1 with
 |none=>simp[e2] at hb
 |some p2=>
 obtain⟨b1,m2⟩:=p2;simp only[e2] at hb;cases e3:iV mx cap m2 with
 |none=>simp[e3] at hb
 |some p3=>
 obtain⟨c1,m3⟩:=p3;simp only[e3] at hb;cases hc:(Nat.ble a1 b1&&Nat.ble b1 c1&&Nat.ble c1 cap) with
 |false=>simp[hc] at hb
 |true=>
  simp only[hc,cond_true,Option.some.injEq,Prod.mk.injEq] at hb;obtain⟨rfl,rfl,rfl⟩:=hb;simp only[Bool.and_eq_true] at hc;exact⟨Nat.le_of_ble_eq_true hc.1.1,Nat.le_of_ble_eq_true hc.1.2,Nat.le_of_ble_eq_true hc.2⟩
theorem Ar{len cap:Nat}{lo hi mx:Bool}{l:List AV}{a b c:Nat}(hb:bounds len len lo hi mx l=some (a,b,c))(hle:len≤cap):bounds len cap lo hi mx l=some (a,b,cond mx c cap):=by
 have hf:=kz hb;rw[s6] at hb⊢;cases e1:iV lo 0 l with
 |none=>simp[e1] at hb
 |some p1=>
 obtain⟨a1,m1⟩:=p1;simp only[e1] at hb⊢;cases e2:iV hi len m1 with
 |none=>simp[e2] at hb
 |some p2=>
 obtain⟨b1,m2⟩:=p2;simp only[e2] at hb⊢;cases mx with
 |false=>
  simp only[iV] at hb⊢;cases hc:(Nat.ble a1 b1&&Nat.ble b1 len&&Nat.ble len len) with
  |false=>simp[hc] at hb
  |true=>
   simp only[hc,cond_true,Option.some.injEq,Prod.mk.injEq] at hb;obtain⟨rfl,rfl,rfl⟩:=hb;have:(Nat.ble a1 b1&&Nat.ble b1 cap&&Nat.ble cap cap)=true:=by
    simp only[Bool.and_eq_true];exact⟨⟨Nat.ble_eq_true_of_le hf.1,Nat.ble_eq_true_of_le (by omega)⟩,Nat.ble_eq_true_of_le (Nat.le_refl _)⟩
   rw[this];rfl
 |true=>
  have NH:∀d d',iV true d m2=iV true d' m2:=fun _ _=>by cases m2<;>rfl
  rw[NH cap len];cases e3:iV true len m2 with
  |none=>simp[e3] at hb
  |some p3=>
  obtain⟨c1,m3⟩:=p3;simp only[e3] at hb⊢;cases hc:(Nat.ble a1 b1&&Nat.ble b1 c1&&Nat.ble c1 len) with
  |false=>simp[hc] at hb
  |true=>
   simp only[hc,cond_true,Option.some.injEq,Prod.mk.injEq] at hb;obtain⟨rfl,rfl,rfl⟩:=hb;have:(Nat.ble a1 b1&&Nat.ble b1 c1&&Nat.ble c1 cap)=true:=by
    simp only[Bool.and_eq_true];exact⟨⟨Nat.ble_eq_true_of_le hf.1,Nat.ble_eq_true_of_le hf.2.1⟩,Nat.ble_eq_true_of_le (by omega)⟩
   rw[this];rfl
theorem vc{k:Nat}(hk:k≤2):Nat.beq k 3=false:=by
 cases hq:Nat.beq k 3 with
 |false=>rfl
 |true=>have:=Nat.eq_of_beq_eq_true hq;omega
theorem Fp{size:Nat}{lo hi m:Bool}{k:Nat}{l r r':List AV}{w v:AV}(hw:Rel s n F h (.fz k l) w)(q:aX s n F h r r')(hp:nV size lo hi m k l r=some v):
  ∃v',pI (.slice size lo hi m) (w::r')=some v'∧Rel s n F h v v':=by
 cases hw with
 |iJ=>
  unfold nV at hp;split at hp
  ·rename_i a hh mm hb;have AU:=kz hb;simp only[List.length_nil] at AU;have ha:a=0:=by omega
   subst ha;have AR:=gz q hb;simp only[List.length_nil] at AR;have hv:AV.fz 3 []=v:=by
    simp only[List.length_nil,aL,cond_true,cW,List.drop_nil,List.take_nil,show Nat.beq 3 0=false from rfl,show Nat.beq 3 3=true from rfl,Bool.and_false,Bool.false_and,cond_false,Option.some.injEq] at hp;exact hp
   subst hv;exact⟨.az,by simp only[pI,AR],.iJ⟩
  ·simp at hp
 |@xW k a hk=>
  unfold nV at hp;split at hp
  ·rename_i a1 hh mm hb;have AU:=kz hb;simp only[List.length_nil] at AU;have ha:a1=0:=by omega
   subst ha;have AR:=gz q hb;simp only[List.length_nil] at AR;simp only[List.length_nil,show Nat.beq 0 0=true from rfl,Bool.not_true,Bool.and_false,cond_false,aL,cond_true,List.drop_nil,List.take_nil,Option.some.injEq] at hp;subst hp;refine⟨.fE a,by simp only[pI,AR],.xW ?_⟩;simp only[cW,vc hk,cond_false];cases m
   ·cases Nat.beq hh 0<;>simp<;>omega
   ·cases Nat.beq mm hh<;>simp
  ·simp at hp
 |@fz _ _ b o len cap op vs wr es z hf hg h1 h2 h3 h4 lS h5 h6 h7=>
 subst h2;have CB:Nat.beq k 3=false:=by
  cases hq:Nat.beq k 3 with
  |false=>rfl
  |true=>have:=Nat.eq_of_beq_eq_true hq;omega
 have Lj:∀(m:Bool) (hh mm:Nat),cW k m hh mm l.length≤2:=by
  intro m hh mm;simp only[cW,CB,cond_false];cases m
  ·cases Nat.beq hh l.length<;>simp<;>omega
  ·cases Nat.beq mm hh<;>simp
 unfold nV at hp;split at hp
 ·rename_i a hh mm hb;have AU:=kz hb;cases hc:(Nat.beq a l.length&&Nat.beq k 0&&!Nat.beq a 0) with
  |true=>simp[hc] at hp
  |false=>
   simp only[hc,cond_false] at hp;cases hz:aL size l with
   |false=>simp[hz] at hp
   |true=>
    simp only[hz,cond_true,Option.some.injEq] at hp;subst hp;have hb':=gz q (Ar hb h4);simp only[pI,hb'];have hk:a=l.length→(op&&!Nat.beq a 0)=false:=by
     intro e;cases wT:Nat.beq a 0 with
     |true=>simp
     |false=>
      rw[wT,e] at hc;simp only[Nat.beq_refl,Bool.true_and,Bool.not_false,Bool.and_true] at hc;rw[h5 (by cases k with|zero=>simp at hc|succ k=>omega)];rfl
    have oq:(Nat.beq (cond m mm cap) a&&Nat.beq cap (cond m mm cap)&&(op&&!m&&!Nat.beq a 0))=false:=by
     cases hq:(Nat.beq (cond m mm cap) a&&Nat.beq cap (cond m mm cap)) with
     |false=>rfl
     |true=>
      simp only[Bool.and_eq_true] at hq;have e1:=Nat.eq_of_beq_eq_true hq.1;have e2:=Nat.eq_of_beq_eq_true hq.2;have lS:=hk (by omega);have uG:(op&&!m&&!Nat.beq a 0)=false:=by revert lS;cases op<;>cases m<;>cases Nat.beq a 0<;>simp
      rw[uG];rfl
    rw[oq];refine⟨_,rfl,?_⟩;by_cases hne:hh-a=0
    ·
     rw[hne];simp only[List.take_zero];refine .fz (z:=z) (o:=o+cond (Nat.beq (cond m mm cap) a) 0 (a*size)) (vs:=vs) hf hg rfl rfl ?_ (by omega) (Lj _ _ _) ?_ ?_ (fun i x j c y hx=>by simp at hx)
     ·simp only[List.length_nil,Nat.zero_mul,Nat.add_zero];cases K7:Nat.beq (cond m mm cap) a with
      |true=>simp;omega
      |false=>
       simp only[cond_false];by_cases Uc:l=[]
       ·subst Uc;simp at AU⊢;have:a=0:=by omega
        subst this;simp;omega
       ·have:=qR h1 hz Uc;subst this;have:a*z≤l.length*z:=Nat.mul_le_mul_right _ (by omega);omega
     ·intro zk;cases m with
      |true=>rfl
      |false=>
       simp only[cond_false];simp only[cW,CB,cond_false] at zk;refine h5 ?_;cases hq:Nat.beq hh l.length<;>simp only[hq,cond_true,cond_false] at zk<;>omega
     ·intro hk2;cases m with
      |true=>
       simp only[cW,CB,cond_true,cond_false] at hk2⊢;cases hq:Nat.beq mm hh with
       |false=>simp[hq] at hk2
       |true=>have:=Nat.eq_of_beq_eq_true hq;omega
      |false=>
       simp only[cW,CB,cond_false] at hk2⊢;cases hq:Nat.beq hh l.length with
       |false=>simp only[hq,cond_false] at hk2;omega
       |true=>
        simp only[hq,cond_true] at hk2;have:=h6 hk2;have:=Nat.eq_of_beq_eq_true hq;omega
    ·have Uc:l≠[]:=by rintro rfl;simp at AU;omega
     have Yt:=qR h1 hz Uc;subst Yt;have XX:Nat.beq (cond m mm cap) a=false:=by
      cases hq:Nat.beq (cond m mm cap) a with
      |false=>rfl
      |true=>have:=Nat.eq_of_beq_eq_true hq;cases m<;>simp at this<;>omega
     rw[XX];simp only[cond_false];have DH:((l.drop a).take (hh-a)).length=hh-a:=by simp;omega
     refine .fz (z:=z) (vs:=vs) hf hg ?_ DH.symm ?_ ?_ (Lj _ _ _) ?_ ?_ ?_
     ·refine jP.2 fun i x hx=>?_;rw[List.getElem?_take] at hx;split at hx
      ·rw[List.getElem?_drop] at hx;exact cX h1 hx
      ·simp at hx
     ·rw[DH];have:a*z+(hh-a)*z≤l.length*z:=by rw[←Nat.add_mul];exact Nat.mul_le_mul_right _ (by omega)
      omega
     ·cases m<;>simp<;>omega
     ·intro zk;cases m with
      |true=>rfl
      |false=>
       simp only[cond_false];simp only[cW,CB,cond_false] at zk;refine h5 ?_;cases hq:Nat.beq hh l.length<;>simp only[hq,cond_true,cond_false] at zk<;>omega
     ·intro hk2;cases m with
      |true=>
       simp only[cW,CB,cond_true,cond_false] at hk2⊢;cases hq:Nat.beq mm hh with
       |false=>simp[hq] at hk2
       |true=>have:=Nat.eq_of_beq_eq_true hq;omega
      |false=>
       simp only[cW,CB,cond_false] at hk2⊢;cases hq:Nat.beq hh l.length with
       |false=>simp only[hq,cond_false] at hk2;omega
       |true=>
        simp only[hq,cond_true] at hk2;have:=h6 hk2;have:=Nat.eq_of_beq_eq_true hq;omega
     ·intro i x j c y hx hc hy;rw[List.getElem?_take] at hx;split at hx
      ·rw[List.getElem?_drop] at hx;refine h7 (a+i) x j c y hx hc ?_;rw[←hy]
       congr 1
       rw[Nat.add_mul];omega
      ·simp at hx
 ·simp at hp
theorem xS{s:Nat→Nat}{n:Nat}{F:Nat→Prop}{h:Heap}{k:Nat}{x y x' y':AV}{b:Bool}(r1:Rel s n F h x x')(r2:Rel s n F h y y')(he:tW k x y=some b):tW k x' y'=some b:=by
 unfold tW at he;split at he
 ·cases r1;cases r2;exact he
 ·cases r1;cases r2;exact he
 ·cases r1;cases r2;exact he
 ·simp at he
theorem oP{s:Nat→Nat}{n:Nat}{F:Nat→Prop}{h:Heap}:∀(ks:List Nat) {xs ys xs' ys':List AV} {b:Bool},aX s n F h xs xs'→aX s n F h ys ys'→fZ ks xs ys=some b→fZ ks xs' ys'=some b
 |[],_,_,_,_,_,_,_,he=>he
 |k::ks,[],_,_,_,_,_,_,he=>by simp[fZ] at he
 |k::ks,_::_,[],_,_,_,_,_,he=>by simp[fZ] at he
 |k::ks,x::xs,y::ys,[],_,_,r1,_,_=>by have:=r1.1;simp at this
 |k::ks,x::xs,y::ys,_::_,[],_,_,r2,_=>by have:=r2.1;simp at this
 |k::ks,x::xs,y::ys,x'::xs',y'::ys',b,r1,r2,he=>by
  have hx:=r1.2 0 x x' rfl rfl;have hy:=r2.2 0 y y' rfl rfl;have rx:aX s n F h xs xs':=⟨by have:=r1.1;simpa using this,fun i a c ha hc=>r1.2 (i+1) a c (by simpa using ha) (by simpa using hc)⟩;have ry:aX s n F h ys ys':=⟨by have:=r2.1;simpa using this,fun i a c ha hc=>r2.2 (i+1) a c (by simpa using ha) (by simpa using hc)⟩;simp only[fZ] at he⊢;split at he
  ·rename_i h1;rw[xS hx hy h1];exact oP ks rx ry he
  ·rename_i h1;rw[xS hx hy h1];exact he
  ·simp at he
theorem HV{o:pQ}{vals vals':List AV}{v:AV}(r:aX s n F h vals vals')(hc:HZ o=true)(hp:pV o vals=some v):∃v',pI o vals'=some v'∧Rel s n F h v v':=by
 cases o with
 |yh=>
  obtain⟨x,rfl,hx⟩:=eF (show l1 vals some=some v from hp);obtain⟨y,rfl,hy⟩:=r.one;cases hx
  exact⟨y,rfl,hy⟩
 |pick=>
  obtain⟨c,a,b,rfl,hx⟩:=J1 (show l3 vals _=some v from hp);obtain⟨c',a',b',rfl,h1,h2,h3⟩:=r.three;replace hx:=vh hx;obtain⟨t,rfl,hx⟩:=hx;rw[h1.Aq];cases hx
  cases t
  ·exact⟨b',rfl,h3⟩
  ·exact⟨a',rfl,h2⟩
 |bin op=>
  obtain⟨x,y,rfl,hx⟩:=nL (show l2 vals (Cc op)=some v from hp);rw[Dq] at hx;obtain⟨g1,g2,g3⟩:=Jg hx;exact fD r (show pI (.bin op) [x,y]=some v from hx) (by simp[kS,g1,g2]) g3
 |eq k=>
  simp only[pV] at hp;split at hp
  ·rename_i x y;obtain⟨x',y',rfl,h1,h2⟩:=r.two;split at hp
   ·split at hp
    ·cases hp
     cases h2
     cases h1 with
     |iJ=>exact⟨_,rfl,.bool⟩
     |xW hk=>exact⟨_,by rw[vc hk];rfl,.bool⟩
     |fz _ _ _ _ _ _ hk=>exact⟨_,by rw[vc hk];rfl,.bool⟩
    ·simp at hp
   ·split at hp
    ·cases hp;cases h1;cases h2;exact⟨_,rfl,.bool⟩
    ·simp at hp
   ·split at hp
    ·split at hp
     ·cases hp
      cases h1
      cases h2 with
      |iJ=>exact⟨_,rfl,.bool⟩
      |xW hk=>exact⟨_,by rw[vc hk];rfl,.bool⟩
      |fz _ _ _ _ _ _ hk=>exact⟨_,by rw[vc hk];rfl,.bool⟩
     ·simp at hp
    ·split at hp
     ·cases hp;cases h1;cases h2;exact⟨_,rfl,.bool⟩
     ·simp at hp
    ·simp only[Option.map_eq_some_iff] at hp;obtain⟨t,ht,rfl⟩:=hp;refine⟨.bool t,?_,.bool⟩;simp only[pI,Option.map_eq_some_iff];refine⟨t,?_,rfl⟩;cases k<;>cases x<;>cases y<;>simp only[BW] at ht<;>first|(simp at ht;done)|(cases h1;done)|(cases h2;done)|(cases h1;cases h2;exact ht)|(cases h1 with|agg a1 a2=>cases h2 with|agg b1 b2=>exact oP _ ⟨a1,a2⟩ ⟨b1,b2⟩ ht)
  ·simp at hp
 |neq k=>
  simp only[pV] at hp;split at hp
  ·rename_i x y;obtain⟨x',y',rfl,h1,h2⟩:=r.two;split at hp
   ·split at hp
    ·cases hp
     cases h2
     cases h1 with
     |iJ=>exact⟨_,rfl,.bool⟩
     |xW hk=>exact⟨_,by rw[vc hk];rfl,.bool⟩
     |fz _ _ _ _ _ _ hk=>exact⟨_,by rw[vc hk];rfl,.bool⟩
    ·simp at hp
   ·split at hp
    ·cases hp;cases h1;cases h2;exact⟨_,rfl,.bool⟩
    ·simp at hp
   ·split at hp
    ·split at hp
     ·cases hp
      cases h1
      cases h2 with
      |iJ=>exact⟨_,rfl,.bool⟩
      |xW hk=>exact⟨_,by rw[vc hk];rfl,.bool⟩
      |fz _ _ _ _ _ _ hk=>exact⟨_,by rw[vc hk];rfl,.bool⟩
     ·simp at hp
    ·split at hp
     ·cases hp;cases h1;cases h2;exact⟨_,rfl,.bool⟩
     ·simp at hp
    ·simp only[Option.map_eq_some_iff] at hp;obtain⟨t,ht,rfl⟩:=hp;refine⟨.bool !t,?_,.bool⟩;simp only[pI,Option.map_eq_some_iff];refine⟨t,?_,rfl⟩;cases k<;>cases x<;>cases y<;>simp only[BW] at ht<;>first|(simp at ht;done)|(cases h1;done)|(cases h2;done)|(cases h1;cases h2;exact ht)|(cases h1 with|agg a1 a2=>cases h2 with|agg b1 b2=>exact oP _ ⟨a1,a2⟩ ⟨b1,b2⟩ ht)
  ·simp at hp
 |not=>
  obtain⟨x,rfl,hx⟩:=eF (show l1 vals _=some v from hp);replace hx:=vh hx;obtain⟨t,rfl,hx⟩:=hx;cases hx
  exact fD r rfl rfl rfl
 |neg=>
  obtain⟨x,rfl,hx⟩:=eF (show l1 vals _=some v from hp);replace hx:=xP hx;obtain⟨k,t,rfl,hx⟩:=hx;cases hx
  exact fD r rfl rfl rfl
 |conv k=>
  obtain⟨x,rfl,hx⟩:=eF (show l1 vals _=some v from hp);replace hx:=xP hx;obtain⟨k,t,rfl,hx⟩:=hx;cases hx
  exact fD r rfl rfl rfl
 |Ef=>
  obtain⟨x,rfl,hx⟩:=eF (show l1 vals _=some v from hp);replace hx:=pU hx;obtain⟨t,rfl,hx⟩:=hx;cases hx
  exact fD r rfl rfl rfl
 |field off m g=>
  obtain⟨x,rfl,hx⟩:=eF (show l1 vals _=some v from hp);replace hx:=xO hx;obtain⟨cs,rfl,hx⟩:=hx;obtain⟨y,rfl,hy⟩:=r.one;cases hy with
  |agg h1 h2=>exact Bp ⟨h1,h2⟩ hx
 |ext i=>
  obtain⟨x,rfl,hx⟩:=eF (show l1 vals _=some v from hp);replace hx:=EF hx;obtain⟨cs,rfl,hx⟩:=hx;obtain⟨y,rfl,hy⟩:=r.one;cases hy with
  |dO h1 h2=>exact aX.get ⟨h1,h2⟩ hx
 |o7=>
  obtain⟨x,rfl,hx⟩:=eF (show l1 vals _=some v from hp);obtain⟨y,rfl,hy⟩:=r.one;split at hx
  ·cases hx
   cases hy with
   |fp g1 g2 g3 g4 g5=>exact⟨_,rfl,.fp g1 g2 g3 g4 g5⟩
  ·cases hx
   cases hy with
   |ptr g=>exact⟨_,rfl,.ptr g⟩
  ·simp at hx
 |vo off=>
  obtain⟨x,rfl,hx⟩:=eF (show l1 vals _=some v from hp);obtain⟨y,rfl,hy⟩:=r.one;split at hx
  ·cases hx
   cases hy with
   |fp g1 g2 g3 g4 g5=>exact⟨_,rfl,.fp g1 g2 (by omega) g4 g5⟩
  ·cases hx
   cases hy with
   |ptr g=>exact⟨_,rfl,.ptr g⟩
  ·simp at hx
 |aB size=>
  obtain⟨x,i,rfl,hx⟩:=nL (show l2 vals _=some v from hp);obtain⟨x',i',rfl,h1,h2⟩:=r.two;split at hx
  ·rename_i k l;replace hx:=kK hx;obtain⟨kk,m,rfl,hx⟩:=hx;rw[h2.sq];split at hx
   ·rename_i y hy;cases hq:Nat.beq y.cells.length size with
    |false=>simp[hq] at hx
    |true=>
     simp only[hq,cond_true,Option.some.injEq] at hx;subst hx;have hs:=Nat.eq_of_beq_eq_true hq;cases h1 with
     |iJ=>simp at hy
     |xW=>simp at hy
     |@fz _ _ b o len cap op vs wr es z hf hg g1 g2 g3 g4 _ g5 g6 g7=>
      have hz:=cX g1 hy;have hzs:z=size:=by omega
      subst hzs;have hm:=(List.getElem?_eq_some_iff.1 hy).1;subst g2;have hmz:m*z+z≤l.length*z:=by rw[←Nat.succ_mul];exact Nat.mul_le_mul_right _ hm
      refine⟨.ptr b (o+m*z),?_,.fp (base:=o+m*z) hf hg rfl (by omega) ?_⟩
      ·simp only[pI,asNat];rw[Nat.ble_eq_true_of_le (by omega)];rfl
      ·intro j c w hc hw;exact g7 m y j c w hy hc (by rw[←hw];congr 1;omega)
   ·simp at hx
  ·replace hx:=kK hx;obtain⟨kk,m,rfl,hx⟩:=hx;rw[h2.sq];rename_i b o len cap op;cases h1 with
   |sl g=>
    cases hq:Nat.ble (m+1) len with
    |false=>simp[hq] at hx
    |true=>
     simp only[hq,cond_true,Option.some.injEq] at hx;subst hx;exact⟨_,by simp only[pI,asNat,hq];rfl,.ptr g⟩
  ·simp at hx
 |jD size len=>
  obtain⟨x,i,rfl,hx⟩:=nL (show l2 vals _=some v from hp);obtain⟨x',i',rfl,h1,h2⟩:=r.two;split at hx
  ·replace hx:=kK hx;obtain⟨kk,m,rfl,hx⟩:=hx;rw[h2.sq];cases hq:Nat.ble (m+1) len with
   |false=>simp[hq] at hx
   |true=>
    simp only[hq,cond_true,Option.some.injEq] at hx;subst hx;cases h1 with
    |fp g1 g2 g3 g4 g5=>exact⟨_,by simp only[pI,asNat,hq];rfl,.fp g1 g2 (by omega) g4 g5⟩
  ·replace hx:=kK hx;obtain⟨kk,m,rfl,hx⟩:=hx;rw[h2.sq];cases hq:Nat.ble (m+1) len with
   |false=>simp[hq] at hx
   |true=>
    simp only[hq,cond_true,Option.some.injEq] at hx;subst hx;cases h1 with
    |ptr g=>exact⟨_,by simp only[pI,asNat,hq];rfl,.ptr g⟩
  ·simp at hx
 |Ba size len g=>
  obtain⟨x,i,rfl,hx⟩:=nL (show l2 vals _=some v from hp);obtain⟨x',i',rfl,h1,h2⟩:=r.two;replace hx:=xO hx;obtain⟨cs,rfl,hx⟩:=hx;replace hx:=kK hx;obtain⟨kk,m,rfl,hx⟩:=hx;rw[h2.sq];cases hq:Nat.ble (m+1) len with
  |false=>simp[hq] at hx
  |true=>
   simp only[hq,cond_true] at hx;cases h1 with
   |agg g1 g2=>
    obtain⟨v',A7,hr'⟩:=Bp ⟨g1,g2⟩ hx;exact⟨v',by simp only[pI,asNat,hq,cond_true];exact A7,hr'⟩
 |CH=>
  have iA:=hp;obtain⟨x,i,rfl,hx⟩:=nL (show l2 vals _=some v from hp);replace hx:=pU hx;obtain⟨l,rfl,hx⟩:=hx;replace hx:=kK hx;obtain⟨kk,m,rfl,hx⟩:=hx;simp only[Option.map_eq_some_iff] at hx;obtain⟨b,hb,rfl⟩:=hx;exact fD r (by simp only[pI,asNat,hb,Option.map_some]) rfl rfl
 |build zs ps=>
  have iA:(fill zs ps vals).map .agg=some v:=hp;simp only[Option.map_eq_some_iff] at iA;obtain⟨cs,hcs,rfl⟩:=iA;obtain⟨cs',h1,h2⟩:=sg (zs':=zs) (by
   have:Rel s n F h (.agg zs) (.agg zs):=.dU (by simpa[AV.pl,HZ] using hc);cases this with|agg g1 g2=>exact⟨g1,g2⟩) r hcs
  exact⟨.agg cs',by simp only[pI,h1,Option.map_some],.agg h2.1 h2.2⟩
 |p8 t=>
  obtain⟨x,rfl,hx⟩:=eF (show l1 vals _=some v from hp);obtain⟨y,rfl,hy⟩:=r.one;cases hx
  exact⟨_,rfl,.iface hy⟩
 |ec fn m=>
  have iA:some (AV.func fn (vals.take m) (vals.drop m))=some v:=hp;cases iA
  exact⟨_,rfl,.func (r.take m).1 (r.take m).2 (r.drop m).1 (r.drop m).2⟩
 |aV=>
  obtain⟨x,rfl,hx⟩:=eF (show l1 vals _=some v from hp);obtain⟨y,rfl,hy⟩:=r.one;split at hx
  ·cases hx
   cases hy with
   |fz g1 g2 g3 g4 g5 g6 _ g7 g8 g9=>subst g4;exact⟨_,rfl,.int⟩
   |iJ=>exact⟨_,rfl,.int⟩
   |xW=>exact⟨_,rfl,.int⟩
  ·cases hx
   cases hy with
   |sl g=>exact⟨_,rfl,.int⟩
  ·cases hx
   cases hy
   exact⟨_,rfl,.int⟩
  ·cases hx
   cases hy
   exact⟨_,rfl,.int⟩
  ·simp at hx
 |lC=>
  obtain⟨x,rfl,hx⟩:=eF (show l1 vals _=some v from hp);replace hx:=pU hx;obtain⟨t,rfl,hx⟩:=hx;cases hx
  exact fD r rfl rfl rfl
 |E2 m=>
  have iA:some (AV.int .i64 m)=some v:=hp;cases iA
  exact⟨_,by unfold pI;rfl,.int⟩
 |mx=>
  obtain⟨x,l,rfl,hx⟩:=sr (show lc vals _=some v from hp);cases l with
  |nil=>
   obtain⟨y,rfl,hy⟩:=r.one;simp only[kq,Option.some.injEq] at hx;subst hx;exact⟨y,rfl,hy⟩
  |cons z l=>
   obtain⟨g1,g2,g3⟩:=vt J4 hx (fun e=>by simp at e);exact fD r (show pI .mx (x::z::l)=some v from hx) (by simp only[kS,g1,Bool.true_and];exact g2) g3
 |mn=>
  obtain⟨x,l,rfl,hx⟩:=sr (show lc vals _=some v from hp);cases l with
  |nil=>
   obtain⟨y,rfl,hy⟩:=r.one;simp only[kq,Option.some.injEq] at hx;subst hx;exact⟨y,rfl,hy⟩
  |cons z l=>
   obtain⟨g1,g2,g3⟩:=vt J5 hx (fun e=>by simp at e);exact fD r (show pI .mn (x::z::l)=some v from hx) (by simp only[kS,g1,Bool.true_and];exact g2) g3
 |slice size lo hi m=>
  obtain⟨x,l,rfl,hx⟩:=sr (show lc vals _=some v from hp);obtain⟨y,l',rfl,h1,h2⟩:=r.cons_inv;split at hx
  ·exact Fp h1 h2 hx
  ·unfold lH at hx;cases x with
   |sl b o len cap op=>
    simp only[IU] at hx;cases h1 with
    |sl g=>
     split at hx
     ·rename_i a hh mm hb;simp only[pI,gz h2 hb];cases hq:(Nat.beq mm a&&Nat.beq cap mm&&(op&&!m&&!Nat.beq a 0)) with
      |true=>
       simp only[hq,cond_true,Option.some.injEq] at hx;subst hx;exact⟨_,rfl,.rest g⟩
      |false=>
       simp only[hq,cond_false,Option.some.injEq] at hx;subst hx;exact⟨_,rfl,.sl g⟩
     ·simp at hx
   |az=>
    simp only[IU] at hx;cases h1
    split at hx
    ·rename_i hb;cases hx
     simp only[pI,gz h2 hb];exact⟨_,rfl,.az⟩
    ·simp at hx
   |fE a=>cases h1
   |rest b o k=>
    cases h1 with
    |rest g=>
     have hx:(match bounds 0 0 lo hi m l with|some _=>bif m then none else some (.rest b o k)|none=>none)=some v:=hx;split at hx
     ·rename_i hb;cases m with
      |true=>simp at hx
      |false=>
       simp only[cond_false,Option.some.injEq] at hx;subst hx;simp only[pI,gz h2 hb,cond_false];exact⟨_,rfl,.rest g⟩
     ·simp at hx
   |_=>simp[IU] at hx
 |gN lo hi=>
  obtain⟨x,l,rfl,hx⟩:=sr (show lc vals _=some v from hp);obtain⟨y,l',rfl,h1,h2⟩:=r.cons_inv;replace hx:=pU hx;obtain⟨t,rfl,hx⟩:=hx;cases h1
  split at hx
  ·rename_i a hh mm hb;cases hx
   simp only[pI,gz h2 hb];exact⟨_,rfl,.str⟩
  ·simp at hx
 |iL size len lo hi m=>
  obtain⟨x,l,rfl,hx⟩:=sr (show lc vals _=some v from hp);obtain⟨y,l',rfl,h1,h2⟩:=r.cons_inv;replace hx:=EE hx;obtain⟨b,o,rfl,hx⟩:=hx;cases h1 with
  |ptr g=>
   split at hx
   ·rename_i a hh mm hb;cases hx
    simp only[pI,gz h2 hb];exact⟨_,rfl,.sl g⟩
   ·simp at hx
 |nZ t ok z=>
  obtain⟨x,rfl,hx⟩:=eF (show l1 vals _=some v from hp);obtain⟨y,rfl,hy⟩:=r.one;have hz:Rel s n F h z z:=.dU (by simpa[HZ] using hc);split at hx
  ·rename_i u w;cases hy with
   |iface g=>
    simp only[pI];cases hq:Nat.beq u t with
    |true=>
     simp only[hq,cond_true,Option.some.injEq] at hx⊢;subst hx;refine⟨_,rfl,?_⟩;cases ok
     ·exact g
     ·have:=aX.cons g (aX.cons (x:=.bool true) .bool .nil);exact .dO this.1 this.2
    |false=>
     simp only[hq,cond_false] at hx⊢;cases ok with
     |false=>simp at hx
     |true=>
      simp only[cond_true,Option.some.injEq] at hx⊢;subst hx;have:=aX.cons hz (aX.cons (x:=.bool false) .bool .nil);exact⟨_,rfl,.dO this.1 this.2⟩
  ·cases hy
   simp only[pI];cases ok with
   |false=>simp at hx
   |true=>
    simp only[cond_true,Option.some.injEq] at hx⊢;subst hx;have:=aX.cons hz (aX.cons (x:=.bool false) .bool .nil);exact⟨_,rfl,.dO this.1 this.2⟩
  ·simp at hx
end
end Ads
end Go.Proofs.YtmnolnoeibhjgaaGreat
