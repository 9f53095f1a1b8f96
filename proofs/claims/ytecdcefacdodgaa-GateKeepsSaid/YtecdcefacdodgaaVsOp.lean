/-
  The pure operations of Vs, done in Ads.
-/
import Derived.Test.YtecdcefacdodgaaVsRel
set_option linter.unusedVariables false
set_option linter.unusedSimpArgs false
namespace Go.Proofs.Ytecdcefacdodgaa
namespace Ads
theorem eu{α:Type}{args:List AV}{f:AV→Option α}{v:α}(h:l1 args f=some v):∃x,args=[x]∧f x=some v:=by
 rcases args with _|⟨x,_|⟨y,r⟩⟩<;>simp_all[l1]
theorem nI{α:Type}{args:List AV}{f:AV→AV→Option α}{v:α}(h:l2 args f=some v):∃x y,args=[x,y]∧f x y=some v:=by
 rcases args with _|⟨x,_|⟨y,_|⟨z,r⟩⟩⟩<;>simp[l2] at h⊢;exact⟨_,_,⟨rfl,rfl⟩,h⟩
theorem Mo{α:Type}{args:List AV}{f:AV→AV→AV→Option α}{v:α}(h:l3 args f=some v):∃x y z,args=[x,y,z]∧f x y z=some v:=by
 rcases args with _|⟨x,_|⟨y,_|⟨z,_|⟨u,r⟩⟩⟩⟩<;>simp[l3] at h⊢;exact⟨_,_,_,⟨rfl,rfl,rfl⟩,h⟩
theorem sg{α:Type}{args:List AV}{f:AV→List AV→Option α}{v:α}(h:lc args f=some v):∃x r,args=x::r∧f x r=some v:=by
 rcases args with _|⟨x,r⟩<;>simp[lc] at h⊢;exact⟨_,_,⟨rfl,rfl⟩,h⟩
theorem yo{α:Type}{x:AV}{f:IntKind→Int→Option α}{v:α}(h:xG x f=some v):∃k n,x=.int k n∧f k n=some v:=by
 cases x<;>simp[xG] at h⊢;exact⟨_,_,⟨rfl,rfl⟩,h⟩
theorem vv{α:Type}{x:AV}{f:Bool→Option α}{v:α}(h:EG x f=some v):∃b,x=.bool b∧f b=some v:=by
 cases x<;>simp_all[EG]
theorem pX{α:Type}{x:AV}{f:List UInt8→Option α}{v:α}(h:C6 x f=some v):∃b,x=.str b∧f b=some v:=by
 cases x<;>simp_all[C6]
theorem FM{α:Type}{x:AV}{f:Nat→Nat→Option α}{v:α}(h:Bb x f=some v):∃b o,x=.ptr b o∧f b o=some v:=by
 cases x<;>simp[Bb] at h⊢;exact⟨_,_,⟨rfl,rfl⟩,h⟩
theorem ym{α:Type}{x:AV}{f:List AV→Option α}{v:α}(h:Lz x f=some v):∃b,x=.agg b∧f b=some v:=by
 cases x<;>simp_all[Lz]
theorem FN{α:Type}{x:AV}{f:List AV→Option α}{v:α}(h:N7 x f=some v):∃b,x=.cC b∧f b=some v:=by
 cases x<;>simp_all[N7]
theorem kL{α:Type}{x:AV}{f:Nat→Option α}{v:α}(h:s9 x f=some v):∃k m,x=.int k (Int.ofNat m)∧f m=some v:=by
 unfold s9 at h;cases x with
 |int k n=>cases n with
  |ofNat m=>exact⟨k,m,rfl,h⟩
  |negSucc m=>simp[asNat] at h
 |_=>simp[asNat] at h
section
variable {s:Nat→Nat} {n:Nat} {F:Nat→Prop} {h:Heap}
theorem aQ.one{x:AV}{l:List AV}(r:aQ s n F h [x] l):∃y,l=[y]∧Rel s n F h x y:=by
 obtain⟨y,l',rfl,h1,h2⟩:=r.cons_inv;rw[h2.mq];exact⟨y,rfl,h1⟩
theorem aQ.two{x y:AV}{l:List AV}(r:aQ s n F h [x,y] l):∃x' y',l=[x',y']∧Rel s n F h x x'∧Rel s n F h y y':=by
 obtain⟨x',l',rfl,h1,h2⟩:=r.cons_inv;obtain⟨y',rfl,h3⟩:=h2.one;exact⟨x',y',rfl,h1,h3⟩
theorem aQ.three{x y z:AV}{l:List AV}(r:aQ s n F h [x,y,z] l):∃x' y' z',l=[x',y',z']∧Rel s n F h x x'∧Rel s n F h y y'∧Rel s n F h z z':=by
 obtain⟨x',l',rfl,h1,h2⟩:=r.cons_inv;obtain⟨y',z',rfl,h3,h4⟩:=h2.two;exact⟨x',y',z',rfl,h1,h3,h4⟩
theorem aQ.gV{l l':List AV}(r:aQ s n F h l l')(hp:kR l=true):l'=l:=by
 have:Rel s n F h (.agg l) (.agg l'):=.agg r.1 r.2;have:=this.gV (by simpa[AV.pl] using hp);simpa using this
theorem B7{cs cs':List AV}{off m:Nat}{g:Bool}{v:AV}(r:aQ s n F h cs cs')(hp:part cs off m g=some v):∃v',part cs' off m g=some v'∧Rel s n F h v v':=by
 cases g with
 |true=>
  simp only[part,cond_true] at hp⊢;cases hb:Nat.ble (off+m) cs.length with
  |false=>simp[hb] at hp
  |true=>
   simp only[hb,cond_true,Option.some.injEq] at hp;subst hp;rw[←r.1,hb];exact⟨_,rfl,.agg ((r.drop off).take m).1 ((r.drop off).take m).2⟩
 |false=>
  simp only[part,cond_false] at hp⊢;exact r.get hp
theorem rU:∀{ps:List (Nat×Nat)} {zs zs':List AV} {vs vs' cs:List AV},aQ s n F h zs zs'→aQ s n F h vs vs'→fill zs ps vs=some cs→∃cs',fill zs' ps vs'=some cs'∧aQ s n F h cs cs'
 |[],zs,zs',[],vs',cs,r,q,hf=>by
  rw[q.mq];simp only[fill,Option.some.injEq] at hf⊢;subst hf;exact⟨zs',rfl,r⟩
 |[],zs,zs',v::vs,vs',cs,r,q,hf=>by simp[fill] at hf
 |(o,m)::ps,zs,zs',[],vs',cs,r,q,hf=>by simp[fill] at hf
 |(o,m)::ps,zs,zs',v::vs,vs',cs,r,q,hf=>by
  obtain⟨w,ws,rfl,h1,h2⟩:=q.cons_inv;simp only[fill] at hf⊢;have iL:=h1.cells;rw[←iL.1,←r.1];cases hb:(Nat.beq v.cells.length m&&Nat.ble (o+m) zs.length) with
  |false=>simp[hb] at hf
  |true=>
   simp only[hb,cond_true] at hf⊢;simp only[Bool.and_eq_true] at hb;have e1:=Nat.eq_of_beq_eq_true hb.1;have e2:=Nat.le_of_ble_eq_true hb.2;exact rU (r.splice iL o (by omega)) h2 hf
theorem FG{op:BinOp}{k:IntKind}{x y:Int}{v:AV}(hv:qT op k x y=some v):v.pl=true:=by
 cases op<;>simp only[qT] at hv
 case quo|rem=>
  by_cases hy:y=0
  ·simp[hy] at hv
  ·simp[hy] at hv;subst hv;rfl
 all_goals (simp at hv;try(subst hv;rfl))
theorem Lx{op:BinOp}{x y v:AV}(hv:xA op x y=some v):x.pl=true∧y.pl=true∧v.pl=true:=by
 cases x<;>cases y<;>simp only[xA] at hv<;>try(simp at hv;done)
 ·rename_i k a k' b;refine⟨rfl,rfl,?_⟩;cases hs:iN op with
  |true=>
   simp only[hs,cond_true,ld] at hv;by_cases hb:b<0
   ·simp[hb] at hv
   ·simp only[hb,decide_false,cond_false] at hv;split at hv<;>simp at hv<;>subst hv<;>rfl
  |false=>
   simp only[hs,cond_false] at hv;by_cases hk:k=k'
   ·simp only[hk,decide_true,cond_true] at hv;exact FG hv
   ·simp[hk] at hv
 ·refine⟨rfl,rfl,?_⟩;rename_i a b;cases op<;>simp only[zx] at hv
  case add=>
   cases hb:Nat.ble (a.length+b.length) 9223372036854775807 with
   |false=>simp[hb] at hv
   |true=>simp[hb] at hv;subst hv;rfl
  all_goals (simp at hv;try(subst hv;rfl))
theorem vG{f:AV→AV→Option AV}(hf:∀x y z,f x y=some z→x.pl=true∧y.pl=true∧z.pl=true):∀{l:List AV} {x v:AV},kj f x l=some v→(l=[]→x.pl=true)→x.pl=true∧kR l=true∧v.pl=true
 |[],x,v,hv,hx=>by simp[kj] at hv;subst hv;exact⟨hx rfl,rfl,hx rfl⟩
 |y::l,x,v,hv,_=>by
  simp only[kj] at hv;cases hz:f x y with
  |none=>simp[hz] at hv
  |some z=>
   simp only[hz] at hv;obtain⟨g1,g2,g3⟩:=hf x y z hz;obtain⟨g4,g5,g6⟩:=vG hf hv (fun _=>g3);exact⟨g1,by simp[kR,g2,g5],g6⟩
theorem Mv(x y z:AV)(hz:max2 x y=some z):x.pl=true∧y.pl=true∧z.pl=true:=by
 cases x<;>cases y<;>simp[max2] at hz<;>subst hz<;>exact⟨rfl,rfl,rfl⟩
theorem Mx(x y z:AV)(hz:min2 x y=some z):x.pl=true∧y.pl=true∧z.pl=true:=by
 cases x<;>cases y<;>simp[min2] at hz<;>subst hz<;>exact⟨rfl,rfl,rfl⟩
def iD(f:Bool)(d:Nat)(l:List AV):Option (Nat×List AV):=
 match f,l with
 |false,l=>some (d,l)
 |true,v::l=>(asNat v).map fun n=>(n,l)
 |true,[]=>none
theorem s6(len cap:Nat)(lo hi mx:Bool)(args:List AV):bounds len cap lo hi mx args=match iD lo 0 args with
 |none=>none
 |some (l,r)=>match iD hi len r with
  |none=>none
  |some (h,r)=>match iD mx cap r with
   |none=>none
   |some (m,_)=>cond (Nat.ble l h&&Nat.ble h m&&Nat.ble m cap) (some (l,h,m)) none:=rfl
theorem tN{f:Bool}{d:Nat}{l l':List AV}(r:aQ s n F h l l'){k:Nat}{m:List AV}(hh:iD f d l=some (k,m)):∃m',iD f d l'=some (k,m')∧aQ s n F h m m':=by
 cases f with
 |false=>simp only[iD,Option.some.injEq,Prod.mk.injEq] at hh⊢;obtain⟨rfl,rfl⟩:=hh;exact⟨l',⟨rfl,rfl⟩,r⟩
 |true=>
  cases l with
  |nil=>simp[iD] at hh
  |cons x l=>
   obtain⟨y,m',rfl,h1,h2⟩:=r.cons_inv;simp only[iD,Option.map_eq_some_iff,Prod.mk.injEq] at hh⊢;obtain⟨a,ha,rfl,rfl⟩:=hh;refine⟨m',⟨a,?_,rfl,rfl⟩,h2⟩;cases x<;>simp[asNat] at ha
   cases h1
   exact ha
theorem fY{len cap:Nat}{lo hi mx:Bool}{l l':List AV}{t:Nat×Nat×Nat}(r:aQ s n F h l l')(hb:bounds len cap lo hi mx l=some t):bounds len cap lo hi mx l'=some t:=by
 rw[s6] at hb⊢;cases e1:iD lo 0 l with
 |none=>simp[e1] at hb
 |some p1=>
 obtain⟨a,m1⟩:=p1;obtain⟨m1',mG,r1⟩:=tN r e1;simp only[e1] at hb;simp only[mG];cases e2:iD hi len m1 with
 |none=>simp[e2] at hb
 |some p2=>
 obtain⟨b,m2⟩:=p2;obtain⟨m2',CE,r2⟩:=tN r1 e2;simp only[e2] at hb;simp only[CE];cases e3:iD mx cap m2 with
 |none=>simp[e3] at hb
 |some p3=>
 obtain⟨c,m3⟩:=p3;obtain⟨m3',Ob,r3⟩:=tN r2 e3;simp only[e3] at hb;simp only[Ob];exact hb
theorem cN:∀{l:List AV} {z i:Nat} {x:AV},aO z l=true→l[i]?=some x→x.cells.length=z
 |[],z,i,x,_,hx=>by simp at hx
 |y::l,z,0,x,hp,hx=>by simp at hx;subst hx;simp only[aO,Bool.and_eq_true] at hp;exact Nat.eq_of_beq_eq_true hp.1
 |y::l,z,i+1,x,hp,hx=>by simp only[aO,Bool.and_eq_true] at hp;exact cN hp.2 (by simpa using hx)
theorem jO{z:Nat}:∀{l:List AV},aO z l=true↔∀(i:Nat) (x:AV),l[i]?=some x→x.cells.length=z
 |[]=>by simp[aO]
 |y::l=>by
  constructor
  ·intro hp i x hx;exact cN hp hx
  ·intro hp;simp only[aO,Bool.and_eq_true];exact⟨by rw[hp 0 y rfl];simp,jO.2 fun i x hx=>hp (i+1) x (by simpa using hx)⟩
theorem qQ{l:List AV}{a b:Nat}(h1:aO a l=true)(h2:aO b l=true)(hne:l≠[]):a=b:=by
 cases l with
 |nil=>exact absurd rfl hne
 |cons x l=>
  have e1:=cN (i:=0) h1 rfl;have e2:=cN (i:=0) h2 rfl;omega
theorem Rel.r9{k:IntKind}{i:Int}{w:AV}(r:Rel s n F h (.int k i) w):w=.int k i:=by cases r;rfl
theorem Rel.AZ{b:Bool}{w:AV}(r:Rel s n F h (.bool b) w):w=.bool b:=by cases r;rfl
theorem Rel.Qj{b:Bool}{v:AV}(r:Rel s n F h v (.bool b)):v=.bool b:=by cases r;rfl
theorem eZ{o:pR}{vals vals':List AV}{v:AV}(r:aQ s n F h vals vals')(hp:pI o vals=some v)(hl:kR vals=true)(hv:v.pl=true):∃v',pI o vals'=some v'∧Rel s n F h v v':=by
 rw[r.gV hl];exact⟨v,hp,.dG hv⟩
theorem kA{len cap:Nat}{lo hi mx:Bool}{l:List AV}{a b c:Nat}(hb:bounds len cap lo hi mx l=some (a,b,c)):a≤b∧b≤c∧c≤cap:=by
 rw[s6] at hb;cases e1:iD lo 0 l with
 |none=>simp[e1] at hb
 |some p1=>
 obtain⟨a1,m1⟩:=p1;simp only[e1] at hb;cases e2:iD hi len m1 with
 |none=>simp[e2] at hb
 |some p2=>
 obtain⟨b1,m2⟩:=p2;simp only[e2] at hb;cases e3:iD mx cap m2 with
 |none=>simp[e3] at hb
 |some p3=>
 obtain⟨c1,m3⟩:=p3;simp only[e3] at hb;cases hc:(Nat.ble a1 b1&&Nat.ble b1 c1&&Nat.ble c1 cap) with
 |false=>simp[hc] at hb
 |true=>
  simp only[hc,cond_true,Option.some.injEq,Prod.mk.injEq] at hb;obtain⟨rfl,rfl,rfl⟩:=hb;simp only[Bool.and_eq_true] at hc;exact⟨Nat.le_of_ble_eq_true hc.1.1,Nat.le_of_ble_eq_true hc.1.2,Nat.le_of_ble_eq_true hc.2⟩
theorem A0{len cap:Nat}{lo hi mx:Bool}{l:List AV}{a b c:Nat}(hb:bounds len len lo hi mx l=some (a,b,c))(hle:len≤cap):bounds len cap lo hi mx l=some (a,b,cond mx c cap):=by
 have hf:=kA hb;rw[s6] at hb⊢;cases e1:iD lo 0 l with
 |none=>simp[e1] at hb
 |some p1=>
 obtain⟨a1,m1⟩:=p1;simp only[e1] at hb⊢;cases e2:iD hi len m1 with
 |none=>simp[e2] at hb
 |some p2=>
 obtain⟨b1,m2⟩:=p2;simp only[e2] at hb⊢;cases mx with
 |false=>
  simp only[iD] at hb⊢;cases hc:(Nat.ble a1 b1&&Nat.ble b1 len&&Nat.ble len len) with
  |false=>simp[hc] at hb
  |true=>
   simp only[hc,cond_true,Option.some.injEq,Prod.mk.injEq] at hb;obtain⟨rfl,rfl,rfl⟩:=hb;have:(Nat.ble a1 b1&&Nat.ble b1 cap&&Nat.ble cap cap)=true:=by
    simp only[Bool.and_eq_true];exact⟨⟨Nat.ble_eq_true_of_le hf.1,Nat.ble_eq_true_of_le (by omega)⟩,Nat.ble_eq_true_of_le (Nat.le_refl _)⟩
   rw[this];rfl
 |true=>
  have Ob:∀d d',iD true d m2=iD true d' m2:=fun _ _=>by cases m2<;>rfl
  rw[Ob cap len];cases e3:iD true len m2 with
  |none=>simp[e3] at hb
  |some p3=>
  obtain⟨c1,m3⟩:=p3;simp only[e3] at hb⊢;cases hc:(Nat.ble a1 b1&&Nat.ble b1 c1&&Nat.ble c1 len) with
  |false=>simp[hc] at hb
  |true=>
   simp only[hc,cond_true,Option.some.injEq,Prod.mk.injEq] at hb;obtain⟨rfl,rfl,rfl⟩:=hb;have:(Nat.ble a1 b1&&Nat.ble b1 c1&&Nat.ble c1 cap)=true:=by
    simp only[Bool.and_eq_true];exact⟨⟨Nat.ble_eq_true_of_le hf.1,Nat.ble_eq_true_of_le hf.2.1⟩,Nat.ble_eq_true_of_le (by omega)⟩
   rw[this];rfl
theorem vp{k:Nat}(hk:k≤2):Nat.beq k 3=false:=by
 cases hq:Nat.beq k 3 with
 |false=>rfl
 |true=>have:=Nat.eq_of_beq_eq_true hq;omega
theorem GF{size:Nat}{lo hi m:Bool}{k:Nat}{l r r':List AV}{w v:AV}(hw:Rel s n F h (.fz k l) w)(q:aQ s n F h r r')(hp:wS size lo hi m k l r=some v):
  ∃v',pI (.slice size lo hi m) (w::r')=some v'∧Rel s n F h v v':=by
 cases hw with
 |gR=>
  unfold wS at hp;split at hp
  ·rename_i a hh mm hb;have Qp:=kA hb;simp only[List.length_nil] at Qp;have ha:a=0:=by omega
   subst ha;have BA:=fY q hb;simp only[List.length_nil] at BA;have hv:AV.fz 3 []=v:=by
    simp only[List.length_nil,aO,cond_true,eF,List.drop_nil,List.take_nil,show Nat.beq 3 0=false from rfl,show Nat.beq 3 3=true from rfl,Bool.and_false,Bool.false_and,cond_false,Option.some.injEq] at hp;exact hp
   subst hv;exact⟨.aq,by simp only[pI,BA],.gR⟩
  ·simp at hp
 |@yF k a hk=>
  unfold wS at hp;split at hp
  ·rename_i a1 hh mm hb;have Qp:=kA hb;simp only[List.length_nil] at Qp;have ha:a1=0:=by omega
   subst ha;have BA:=fY q hb;simp only[List.length_nil] at BA;simp only[List.length_nil,show Nat.beq 0 0=true from rfl,Bool.not_true,Bool.and_false,cond_false,aO,cond_true,List.drop_nil,List.take_nil,Option.some.injEq] at hp;subst hp;refine⟨.fe a,by simp only[pI,BA],.yF ?_⟩;simp only[eF,vp hk,cond_false];cases m
   ·cases Nat.beq hh 0<;>simp<;>omega
   ·cases Nat.beq mm hh<;>simp
  ·simp at hp
 |@fz _ _ b o len cap op vs wr es z hf hg h1 h2 h3 h4 oq h5 h6 h7=>
 subst h2;have Dz:Nat.beq k 3=false:=by
  cases hq:Nat.beq k 3 with
  |false=>rfl
  |true=>have:=Nat.eq_of_beq_eq_true hq;omega
 have EX:∀(m:Bool) (hh mm:Nat),eF k m hh mm l.length≤2:=by
  intro m hh mm;simp only[eF,Dz,cond_false];cases m
  ·cases Nat.beq hh l.length<;>simp<;>omega
  ·cases Nat.beq mm hh<;>simp
 unfold wS at hp;split at hp
 ·rename_i a hh mm hb;have Qp:=kA hb;cases hc:(Nat.beq a l.length&&Nat.beq k 0&&!Nat.beq a 0) with
  |true=>simp[hc] at hp
  |false=>
   simp only[hc,cond_false] at hp;cases hz:aO size l with
   |false=>simp[hz] at hp
   |true=>
    simp only[hz,cond_true,Option.some.injEq] at hp;subst hp;have hb':=fY q (A0 hb h4);simp only[pI,hb'];have hk:a=l.length→(op&&!Nat.beq a 0)=false:=by
     intro e;cases yL:Nat.beq a 0 with
     |true=>simp
     |false=>
      rw[yL,e] at hc;simp only[Nat.beq_refl,Bool.true_and,Bool.not_false,Bool.and_true] at hc;rw[h5 (by cases k with|zero=>simp at hc|succ k=>omega)];rfl
    have ko:(Nat.beq (cond m mm cap) a&&Nat.beq cap (cond m mm cap)&&(op&&!m&&!Nat.beq a 0))=false:=by
     cases hq:(Nat.beq (cond m mm cap) a&&Nat.beq cap (cond m mm cap)) with
     |false=>rfl
     |true=>
      simp only[Bool.and_eq_true] at hq;have e1:=Nat.eq_of_beq_eq_true hq.1;have e2:=Nat.eq_of_beq_eq_true hq.2;have oq:=hk (by omega);have RT:(op&&!m&&!Nat.beq a 0)=false:=by revert oq;cases op<;>cases m<;>cases Nat.beq a 0<;>simp
      rw[RT];rfl
    rw[ko];refine⟨_,rfl,?_⟩;by_cases hne:hh-a=0
    ·
     rw[hne];simp only[List.take_zero];refine .fz (z:=z) (o:=o+cond (Nat.beq (cond m mm cap) a) 0 (a*size)) (vs:=vs) hf hg rfl rfl ?_ (by omega) (EX _ _ _) ?_ ?_ (fun i x j c y hx=>by simp at hx)
     ·simp only[List.length_nil,Nat.zero_mul,Nat.add_zero];cases Nr:Nat.beq (cond m mm cap) a with
      |true=>simp;omega
      |false=>
       simp only[cond_false];by_cases TG:l=[]
       ·subst TG;simp at Qp⊢;have:a=0:=by omega
        subst this;simp;omega
       ·have:=qQ h1 hz TG;subst this;have:a*z≤l.length*z:=Nat.mul_le_mul_right _ (by omega);omega
     ·intro uX;cases m with
      |true=>rfl
      |false=>
       simp only[cond_false];simp only[eF,Dz,cond_false] at uX;refine h5 ?_;cases hq:Nat.beq hh l.length<;>simp only[hq,cond_true,cond_false] at uX<;>omega
     ·intro hk2;cases m with
      |true=>
       simp only[eF,Dz,cond_true,cond_false] at hk2⊢;cases hq:Nat.beq mm hh with
       |false=>simp[hq] at hk2
       |true=>have:=Nat.eq_of_beq_eq_true hq;omega
      |false=>
       simp only[eF,Dz,cond_false] at hk2⊢;cases hq:Nat.beq hh l.length with
       |false=>simp only[hq,cond_false] at hk2;omega
       |true=>
        simp only[hq,cond_true] at hk2;have:=h6 hk2;have:=Nat.eq_of_beq_eq_true hq;omega
    ·have TG:l≠[]:=by rintro rfl;simp at Qp;omega
     have Wu:=qQ h1 hz TG;subst Wu;have V7:Nat.beq (cond m mm cap) a=false:=by
      cases hq:Nat.beq (cond m mm cap) a with
      |false=>rfl
      |true=>have:=Nat.eq_of_beq_eq_true hq;cases m<;>simp at this<;>omega
     rw[V7];simp only[cond_false];have Nx:((l.drop a).take (hh-a)).length=hh-a:=by simp;omega
     refine .fz (z:=z) (vs:=vs) hf hg ?_ Nx.symm ?_ ?_ (EX _ _ _) ?_ ?_ ?_
     ·refine jO.2 fun i x hx=>?_;rw[List.getElem?_take] at hx;split at hx
      ·rw[List.getElem?_drop] at hx;exact cN h1 hx
      ·simp at hx
     ·rw[Nx];have:a*z+(hh-a)*z≤l.length*z:=by rw[←Nat.add_mul];exact Nat.mul_le_mul_right _ (by omega)
      omega
     ·cases m<;>simp<;>omega
     ·intro uX;cases m with
      |true=>rfl
      |false=>
       simp only[cond_false];simp only[eF,Dz,cond_false] at uX;refine h5 ?_;cases hq:Nat.beq hh l.length<;>simp only[hq,cond_true,cond_false] at uX<;>omega
     ·intro hk2;cases m with
      |true=>
       simp only[eF,Dz,cond_true,cond_false] at hk2⊢;cases hq:Nat.beq mm hh with
       |false=>simp[hq] at hk2
       |true=>have:=Nat.eq_of_beq_eq_true hq;omega
      |false=>
       simp only[eF,Dz,cond_false] at hk2⊢;cases hq:Nat.beq hh l.length with
       |false=>simp only[hq,cond_false] at hk2;omega
       |true=>
        simp only[hq,cond_true] at hk2;have:=h6 hk2;have:=Nat.eq_of_beq_eq_true hq;omega
     ·intro i x j c y hx hc hy;rw[List.getElem?_take] at hx;split at hx
      ·rw[List.getElem?_drop] at hx;refine h7 (a+i) x j c y hx hc ?_;rw[←hy]
       congr 1
       rw[Nat.add_mul];omega
      ·simp at hx
 ·simp at hp
theorem yw{s:Nat→Nat}{n:Nat}{F:Nat→Prop}{h:Heap}{k:Nat}{x y x' y':AV}{b:Bool}(r1:Rel s n F h x x')(r2:Rel s n F h y y')(he:uk k x y=some b):uk k x' y'=some b:=by
 unfold uk at he;split at he
 ·cases r1;cases r2;exact he
 ·cases r1;cases r2;exact he
 ·cases r1;cases r2;exact he
 ·simp at he
theorem oK{s:Nat→Nat}{n:Nat}{F:Nat→Prop}{h:Heap}:∀(ks:List Nat) {xs ys xs' ys':List AV} {b:Bool},aQ s n F h xs xs'→aQ s n F h ys ys'→er ks xs ys=some b→er ks xs' ys'=some b
 |[],_,_,_,_,_,_,_,he=>he
 |k::ks,[],_,_,_,_,_,_,he=>by simp[er] at he
 |k::ks,_::_,[],_,_,_,_,_,he=>by simp[er] at he
 |k::ks,x::xs,y::ys,[],_,_,r1,_,_=>by have:=r1.1;simp at this
 |k::ks,x::xs,y::ys,_::_,[],_,_,r2,_=>by have:=r2.1;simp at this
 |k::ks,x::xs,y::ys,x'::xs',y'::ys',b,r1,r2,he=>by
  have hx:=r1.2 0 x x' rfl rfl;have hy:=r2.2 0 y y' rfl rfl;have rx:aQ s n F h xs xs':=⟨by have:=r1.1;simpa using this,fun i a c ha hc=>r1.2 (i+1) a c (by simpa using ha) (by simpa using hc)⟩;have ry:aQ s n F h ys ys':=⟨by have:=r2.1;simpa using this,fun i a c ha hc=>r2.2 (i+1) a c (by simpa using ha) (by simpa using hc)⟩;simp only[er] at he⊢;split at he
  ·rename_i h1;rw[yw hx hy h1];exact oK ks rx ry he
  ·rename_i h1;rw[yw hx hy h1];exact he
  ·simp at he
theorem JA{o:pR}{vals vals':List AV}{v:AV}(r:aQ s n F h vals vals')(hc:JF o=true)(hp:pV o vals=some v):∃v',pI o vals'=some v'∧Rel s n F h v v':=by
 cases o with
 |Jk=>
  obtain⟨x,rfl,hx⟩:=eu (show l1 vals some=some v from hp);obtain⟨y,rfl,hy⟩:=r.one;cases hx
  exact⟨y,rfl,hy⟩
 |pick=>
  obtain⟨c,a,b,rfl,hx⟩:=Mo (show l3 vals _=some v from hp);obtain⟨c',a',b',rfl,h1,h2,h3⟩:=r.three;replace hx:=vv hx;obtain⟨t,rfl,hx⟩:=hx;rw[h1.AZ];cases hx
  cases t
  ·exact⟨b',rfl,h3⟩
  ·exact⟨a',rfl,h2⟩
 |bin op=>
  obtain⟨x,y,rfl,hx⟩:=nI (show l2 vals (AU op)=some v from hp);rw[EA] at hx;obtain⟨g1,g2,g3⟩:=Lx hx;exact eZ r (show pI (.bin op) [x,y]=some v from hx) (by simp[kR,g1,g2]) g3
 |eq k=>
  simp only[pV] at hp;split at hp
  ·rename_i x y;obtain⟨x',y',rfl,h1,h2⟩:=r.two;split at hp
   ·split at hp
    ·cases hp
     cases h2
     cases h1 with
     |gR=>exact⟨_,rfl,.bool⟩
     |yF hk=>exact⟨_,by rw[vp hk];rfl,.bool⟩
     |fz _ _ _ _ _ _ hk=>exact⟨_,by rw[vp hk];rfl,.bool⟩
    ·simp at hp
   ·split at hp
    ·cases hp;cases h1;cases h2;exact⟨_,rfl,.bool⟩
    ·simp at hp
   ·split at hp
    ·split at hp
     ·cases hp
      cases h1
      cases h2 with
      |gR=>exact⟨_,rfl,.bool⟩
      |yF hk=>exact⟨_,by rw[vp hk];rfl,.bool⟩
      |fz _ _ _ _ _ _ hk=>exact⟨_,by rw[vp hk];rfl,.bool⟩
     ·simp at hp
    ·split at hp
     ·cases hp;cases h1;cases h2;exact⟨_,rfl,.bool⟩
     ·simp at hp
    ·simp only[Option.map_eq_some_iff] at hp;obtain⟨t,ht,rfl⟩:=hp;refine⟨.bool t,?_,.bool⟩;simp only[pI,Option.map_eq_some_iff];refine⟨t,?_,rfl⟩;cases k<;>cases x<;>cases y<;>simp only[C9] at ht<;>first|(simp at ht;done)|(cases h1;done)|(cases h2;done)|(cases h1;cases h2;exact ht)|(cases h1 with|agg a1 a2=>cases h2 with|agg b1 b2=>exact oK _ ⟨a1,a2⟩ ⟨b1,b2⟩ ht)
  ·simp at hp
 |neq k=>
  simp only[pV] at hp;split at hp
  ·rename_i x y;obtain⟨x',y',rfl,h1,h2⟩:=r.two;split at hp
   ·split at hp
    ·cases hp
     cases h2
     cases h1 with
     |gR=>exact⟨_,rfl,.bool⟩
     |yF hk=>exact⟨_,by rw[vp hk];rfl,.bool⟩
     |fz _ _ _ _ _ _ hk=>exact⟨_,by rw[vp hk];rfl,.bool⟩
    ·simp at hp
   ·split at hp
    ·cases hp;cases h1;cases h2;exact⟨_,rfl,.bool⟩
    ·simp at hp
   ·split at hp
    ·split at hp
     ·cases hp
      cases h1
      cases h2 with
      |gR=>exact⟨_,rfl,.bool⟩
      |yF hk=>exact⟨_,by rw[vp hk];rfl,.bool⟩
      |fz _ _ _ _ _ _ hk=>exact⟨_,by rw[vp hk];rfl,.bool⟩
     ·simp at hp
    ·split at hp
     ·cases hp;cases h1;cases h2;exact⟨_,rfl,.bool⟩
     ·simp at hp
    ·simp only[Option.map_eq_some_iff] at hp;obtain⟨t,ht,rfl⟩:=hp;refine⟨.bool !t,?_,.bool⟩;simp only[pI,Option.map_eq_some_iff];refine⟨t,?_,rfl⟩;cases k<;>cases x<;>cases y<;>simp only[C9] at ht<;>first|(simp at ht;done)|(cases h1;done)|(cases h2;done)|(cases h1;cases h2;exact ht)|(cases h1 with|agg a1 a2=>cases h2 with|agg b1 b2=>exact oK _ ⟨a1,a2⟩ ⟨b1,b2⟩ ht)
  ·simp at hp
 |not=>
  obtain⟨x,rfl,hx⟩:=eu (show l1 vals _=some v from hp);replace hx:=vv hx;obtain⟨t,rfl,hx⟩:=hx;cases hx
  exact eZ r rfl rfl rfl
 |neg=>
  obtain⟨x,rfl,hx⟩:=eu (show l1 vals _=some v from hp);replace hx:=yo hx;obtain⟨k,t,rfl,hx⟩:=hx;cases hx
  exact eZ r rfl rfl rfl
 |conv k=>
  obtain⟨x,rfl,hx⟩:=eu (show l1 vals _=some v from hp);replace hx:=yo hx;obtain⟨k,t,rfl,hx⟩:=hx;cases hx
  exact eZ r rfl rfl rfl
 |Fm=>
  obtain⟨x,rfl,hx⟩:=eu (show l1 vals _=some v from hp);replace hx:=pX hx;obtain⟨t,rfl,hx⟩:=hx;cases hx
  exact eZ r rfl rfl rfl
 |field off m g=>
  obtain⟨x,rfl,hx⟩:=eu (show l1 vals _=some v from hp);replace hx:=ym hx;obtain⟨cs,rfl,hx⟩:=hx;obtain⟨y,rfl,hy⟩:=r.one;cases hy with
  |agg h1 h2=>exact B7 ⟨h1,h2⟩ hx
 |ext i=>
  obtain⟨x,rfl,hx⟩:=eu (show l1 vals _=some v from hp);replace hx:=FN hx;obtain⟨cs,rfl,hx⟩:=hx;obtain⟨y,rfl,hy⟩:=r.one;cases hy with
  |cC h1 h2=>exact aQ.get ⟨h1,h2⟩ hx
 |oY=>
  obtain⟨x,rfl,hx⟩:=eu (show l1 vals _=some v from hp);obtain⟨y,rfl,hy⟩:=r.one;split at hx
  ·cases hx
   cases hy with
   |fp g1 g2 g3 g4 g5=>exact⟨_,rfl,.fp g1 g2 g3 g4 g5⟩
  ·cases hx
   cases hy with
   |ptr g=>exact⟨_,rfl,.ptr g⟩
  ·simp at hx
 |vE off=>
  obtain⟨x,rfl,hx⟩:=eu (show l1 vals _=some v from hp);obtain⟨y,rfl,hy⟩:=r.one;split at hx
  ·cases hx
   cases hy with
   |fp g1 g2 g3 g4 g5=>exact⟨_,rfl,.fp g1 g2 (by omega) g4 g5⟩
  ·cases hx
   cases hy with
   |ptr g=>exact⟨_,rfl,.ptr g⟩
  ·simp at hx
 |aH size=>
  obtain⟨x,i,rfl,hx⟩:=nI (show l2 vals _=some v from hp);obtain⟨x',i',rfl,h1,h2⟩:=r.two;split at hx
  ·rename_i k l;replace hx:=kL hx;obtain⟨kk,m,rfl,hx⟩:=hx;rw[h2.r9];split at hx
   ·rename_i y hy;cases hq:Nat.beq y.cells.length size with
    |false=>simp[hq] at hx
    |true=>
     simp only[hq,cond_true,Option.some.injEq] at hx;subst hx;have hs:=Nat.eq_of_beq_eq_true hq;cases h1 with
     |gR=>simp at hy
     |yF=>simp at hy
     |@fz _ _ b o len cap op vs wr es z hf hg g1 g2 g3 g4 _ g5 g6 g7=>
      have hz:=cN g1 hy;have hzs:z=size:=by omega
      subst hzs;have hm:=(List.getElem?_eq_some_iff.1 hy).1;subst g2;have hmz:m*z+z≤l.length*z:=by rw[←Nat.succ_mul];exact Nat.mul_le_mul_right _ hm
      refine⟨.ptr b (o+m*z),?_,.fp (base:=o+m*z) hf hg rfl (by omega) ?_⟩
      ·simp only[pI,asNat];rw[Nat.ble_eq_true_of_le (by omega)];rfl
      ·intro j c w hc hw;exact g7 m y j c w hy hc (by rw[←hw];congr 1;omega)
   ·simp at hx
  ·replace hx:=kL hx;obtain⟨kk,m,rfl,hx⟩:=hx;rw[h2.r9];rename_i b o len cap op;cases h1 with
   |sl g=>
    cases hq:Nat.ble (m+1) len with
    |false=>simp[hq] at hx
    |true=>
     simp only[hq,cond_true,Option.some.injEq] at hx;subst hx;exact⟨_,by simp only[pI,asNat,hq];rfl,.ptr g⟩
  ·simp at hx
 |ig size len=>
  obtain⟨x,i,rfl,hx⟩:=nI (show l2 vals _=some v from hp);obtain⟨x',i',rfl,h1,h2⟩:=r.two;split at hx
  ·replace hx:=kL hx;obtain⟨kk,m,rfl,hx⟩:=hx;rw[h2.r9];cases hq:Nat.ble (m+1) len with
   |false=>simp[hq] at hx
   |true=>
    simp only[hq,cond_true,Option.some.injEq] at hx;subst hx;cases h1 with
    |fp g1 g2 g3 g4 g5=>exact⟨_,by simp only[pI,asNat,hq];rfl,.fp g1 g2 (by omega) g4 g5⟩
  ·replace hx:=kL hx;obtain⟨kk,m,rfl,hx⟩:=hx;rw[h2.r9];cases hq:Nat.ble (m+1) len with
   |false=>simp[hq] at hx
   |true=>
    simp only[hq,cond_true,Option.some.injEq] at hx;subst hx;cases h1 with
    |ptr g=>exact⟨_,by simp only[pI,asNat,hq];rfl,.ptr g⟩
  ·simp at hx
 |Ga size len g=>
  obtain⟨x,i,rfl,hx⟩:=nI (show l2 vals _=some v from hp);obtain⟨x',i',rfl,h1,h2⟩:=r.two;replace hx:=ym hx;obtain⟨cs,rfl,hx⟩:=hx;replace hx:=kL hx;obtain⟨kk,m,rfl,hx⟩:=hx;rw[h2.r9];cases hq:Nat.ble (m+1) len with
  |false=>simp[hq] at hx
  |true=>
   simp only[hq,cond_true] at hx;cases h1 with
   |agg g1 g2=>
    obtain⟨v',BM,hr'⟩:=B7 ⟨g1,g2⟩ hx;exact⟨v',by simp only[pI,asNat,hq,cond_true];exact BM,hr'⟩
 |Gb=>
  have gK:=hp;obtain⟨x,i,rfl,hx⟩:=nI (show l2 vals _=some v from hp);replace hx:=pX hx;obtain⟨l,rfl,hx⟩:=hx;replace hx:=kL hx;obtain⟨kk,m,rfl,hx⟩:=hx;simp only[Option.map_eq_some_iff] at hx;obtain⟨b,hb,rfl⟩:=hx;exact eZ r (by simp only[pI,asNat,hb,Option.map_some]) rfl rfl
 |build zs ps=>
  have gK:(fill zs ps vals).map .agg=some v:=hp;simp only[Option.map_eq_some_iff] at gK;obtain⟨cs,hcs,rfl⟩:=gK;obtain⟨cs',h1,h2⟩:=rU (zs':=zs) (by
   have:Rel s n F h (.agg zs) (.agg zs):=.dG (by simpa[AV.pl,JF] using hc);cases this with|agg g1 g2=>exact⟨g1,g2⟩) r hcs
  exact⟨.agg cs',by simp only[pI,h1,Option.map_some],.agg h2.1 h2.2⟩
 |uY t=>
  obtain⟨x,rfl,hx⟩:=eu (show l1 vals _=some v from hp);obtain⟨y,rfl,hy⟩:=r.one;cases hx
  exact⟨_,rfl,.iface hy⟩
 |gL fn m=>
  have gK:some (AV.func fn (vals.take m) (vals.drop m))=some v:=hp;cases gK
  exact⟨_,rfl,.func (r.take m).1 (r.take m).2 (r.drop m).1 (r.drop m).2⟩
 |cA=>
  obtain⟨x,rfl,hx⟩:=eu (show l1 vals _=some v from hp);obtain⟨y,rfl,hy⟩:=r.one;split at hx
  ·cases hx
   cases hy with
   |fz g1 g2 g3 g4 g5 g6 _ g7 g8 g9=>subst g4;exact⟨_,rfl,.int⟩
   |gR=>exact⟨_,rfl,.int⟩
   |yF=>exact⟨_,rfl,.int⟩
  ·cases hx
   cases hy with
   |sl g=>exact⟨_,rfl,.int⟩
  ·cases hx
   cases hy
   exact⟨_,rfl,.int⟩
  ·cases hx
   cases hy
   exact⟨_,rfl,.int⟩
  ·simp at hx
 |Aa=>
  obtain⟨x,rfl,hx⟩:=eu (show l1 vals _=some v from hp);replace hx:=pX hx;obtain⟨t,rfl,hx⟩:=hx;cases hx
  exact eZ r rfl rfl rfl
 |Gd m=>
  have gK:some (AV.int .i64 m)=some v:=hp;cases gK
  exact⟨_,by unfold pI;rfl,.int⟩
 |mx=>
  obtain⟨x,l,rfl,hx⟩:=sg (show lc vals _=some v from hp);cases l with
  |nil=>
   obtain⟨y,rfl,hy⟩:=r.one;simp only[kj,Option.some.injEq] at hx;subst hx;exact⟨y,rfl,hy⟩
  |cons z l=>
   obtain⟨g1,g2,g3⟩:=vG Mv hx (fun e=>by simp at e);exact eZ r (show pI .mx (x::z::l)=some v from hx) (by simp only[kR,g1,Bool.true_and];exact g2) g3
 |mn=>
  obtain⟨x,l,rfl,hx⟩:=sg (show lc vals _=some v from hp);cases l with
  |nil=>
   obtain⟨y,rfl,hy⟩:=r.one;simp only[kj,Option.some.injEq] at hx;subst hx;exact⟨y,rfl,hy⟩
  |cons z l=>
   obtain⟨g1,g2,g3⟩:=vG Mx hx (fun e=>by simp at e);exact eZ r (show pI .mn (x::z::l)=some v from hx) (by simp only[kR,g1,Bool.true_and];exact g2) g3
 |slice size lo hi m=>
  obtain⟨x,l,rfl,hx⟩:=sg (show lc vals _=some v from hp);obtain⟨y,l',rfl,h1,h2⟩:=r.cons_inv;split at hx
  ·exact GF h1 h2 hx
  ·unfold Ea at hx;cases x with
   |sl b o len cap op=>
    simp only[Qk] at hx;cases h1 with
    |sl g=>
     split at hx
     ·rename_i a hh mm hb;simp only[pI,fY h2 hb];cases hq:(Nat.beq mm a&&Nat.beq cap mm&&(op&&!m&&!Nat.beq a 0)) with
      |true=>
       simp only[hq,cond_true,Option.some.injEq] at hx;subst hx;exact⟨_,rfl,.rest g⟩
      |false=>
       simp only[hq,cond_false,Option.some.injEq] at hx;subst hx;exact⟨_,rfl,.sl g⟩
     ·simp at hx
   |aq=>
    simp only[Qk] at hx;cases h1
    split at hx
    ·rename_i hb;cases hx
     simp only[pI,fY h2 hb];exact⟨_,rfl,.aq⟩
    ·simp at hx
   |fe a=>cases h1
   |rest b o k=>
    cases h1 with
    |rest g=>
     have hx:(match bounds 0 0 lo hi m l with|some _=>bif m then none else some (.rest b o k)|none=>none)=some v:=hx;split at hx
     ·rename_i hb;cases m with
      |true=>simp at hx
      |false=>
       simp only[cond_false,Option.some.injEq] at hx;subst hx;simp only[pI,fY h2 hb,cond_false];exact⟨_,rfl,.rest g⟩
     ·simp at hx
   |_=>simp[Qk] at hx
 |lQ lo hi=>
  obtain⟨x,l,rfl,hx⟩:=sg (show lc vals _=some v from hp);obtain⟨y,l',rfl,h1,h2⟩:=r.cons_inv;replace hx:=pX hx;obtain⟨t,rfl,hx⟩:=hx;cases h1
  split at hx
  ·rename_i a hh mm hb;cases hx
   simp only[pI,fY h2 hb];exact⟨_,rfl,.str⟩
  ·simp at hx
 |gW size len lo hi m=>
  obtain⟨x,l,rfl,hx⟩:=sg (show lc vals _=some v from hp);obtain⟨y,l',rfl,h1,h2⟩:=r.cons_inv;replace hx:=FM hx;obtain⟨b,o,rfl,hx⟩:=hx;cases h1 with
  |ptr g=>
   split at hx
   ·rename_i a hh mm hb;cases hx
    simp only[pI,fY h2 hb];exact⟨_,rfl,.sl g⟩
   ·simp at hx
 |qu t ok z=>
  obtain⟨x,rfl,hx⟩:=eu (show l1 vals _=some v from hp);obtain⟨y,rfl,hy⟩:=r.one;have hz:Rel s n F h z z:=.dG (by simpa[JF] using hc);split at hx
  ·rename_i u w;cases hy with
   |iface g=>
    simp only[pI];cases hq:Nat.beq u t with
    |true=>
     simp only[hq,cond_true,Option.some.injEq] at hx⊢;subst hx;refine⟨_,rfl,?_⟩;cases ok
     ·exact g
     ·have:=aQ.cons g (aQ.cons (x:=.bool true) .bool .nil);exact .cC this.1 this.2
    |false=>
     simp only[hq,cond_false] at hx⊢;cases ok with
     |false=>simp at hx
     |true=>
      simp only[cond_true,Option.some.injEq] at hx⊢;subst hx;have:=aQ.cons hz (aQ.cons (x:=.bool false) .bool .nil);exact⟨_,rfl,.cC this.1 this.2⟩
  ·cases hy
   simp only[pI];cases ok with
   |false=>simp at hx
   |true=>
    simp only[cond_true,Option.some.injEq] at hx⊢;subst hx;have:=aQ.cons hz (aQ.cons (x:=.bool false) .bool .nil);exact⟨_,rfl,.cC this.1 this.2⟩
  ·simp at hx
end
end Ads
end Go.Proofs.Ytecdcefacdodgaa
