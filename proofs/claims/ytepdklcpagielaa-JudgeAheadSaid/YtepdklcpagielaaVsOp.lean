/-
  The pure operations of Vs, done in Ads.
-/
import Derived.Test.YtepdklcpagielaaVsRel
set_option linter.unusedVariables false
set_option linter.unusedSimpArgs false
namespace Go.Proofs.Ytepdklcpagielaa
namespace Ads
theorem fR{α:Type}{args:List AV}{f:AV→Option α}{v:α}(h:l1 args f=some v):∃x,args=[x]∧f x=some v:=by
 rcases args with _|⟨x,_|⟨y,r⟩⟩<;>simp_all[l1]
theorem qi{α:Type}{args:List AV}{f:AV→AV→Option α}{v:α}(h:l2 args f=some v):∃x y,args=[x,y]∧f x y=some v:=by
 rcases args with _|⟨x,_|⟨y,_|⟨z,r⟩⟩⟩<;>simp[l2] at h⊢;exact⟨_,_,⟨rfl,rfl⟩,h⟩
theorem Px{α:Type}{args:List AV}{f:AV→AV→AV→Option α}{v:α}(h:l3 args f=some v):∃x y z,args=[x,y,z]∧f x y z=some v:=by
 rcases args with _|⟨x,_|⟨y,_|⟨z,_|⟨u,r⟩⟩⟩⟩<;>simp[l3] at h⊢;exact⟨_,_,_,⟨rfl,rfl,rfl⟩,h⟩
theorem vj{α:Type}{args:List AV}{f:AV→List AV→Option α}{v:α}(h:lc args f=some v):∃x r,args=x::r∧f x r=some v:=by
 rcases args with _|⟨x,r⟩<;>simp[lc] at h⊢;exact⟨_,_,⟨rfl,rfl⟩,h⟩
theorem Bf{α:Type}{x:AV}{f:IntKind→Int→Option α}{v:α}(h:Cn x f=some v):∃k n,x=.int k n∧f k n=some v:=by
 cases x<;>simp[Cn] at h⊢;exact⟨_,_,⟨rfl,rfl⟩,h⟩
theorem yB{α:Type}{x:AV}{f:Bool→Option α}{v:α}(h:Hi x f=some v):∃b,x=.bool b∧f b=some v:=by
 cases x<;>simp_all[Hi]
theorem sN{α:Type}{x:AV}{f:List UInt8→Option α}{v:α}(h:FB x f=some v):∃b,x=.str b∧f b=some v:=by
 cases x<;>simp_all[FB]
theorem IE{α:Type}{x:AV}{f:Nat→Nat→Option α}{v:α}(h:DK x f=some v):∃b o,x=.ptr b o∧f b o=some v:=by
 cases x<;>simp[DK] at h⊢;exact⟨_,_,⟨rfl,rfl⟩,h⟩
theorem Be{α:Type}{x:AV}{f:List AV→Option α}{v:α}(h:OF x f=some v):∃b,x=.agg b∧f b=some v:=by
 cases x<;>simp_all[OF]
theorem IF{α:Type}{x:AV}{f:List AV→Option α}{v:α}(h:RK x f=some v):∃b,x=.cQ b∧f b=some v:=by
 cases x<;>simp_all[RK]
theorem m8{α:Type}{x:AV}{f:Nat→Option α}{v:α}(h:uo x f=some v):∃k m,x=.int k (Int.ofNat m)∧f m=some v:=by
 unfold uo at h;cases x with
 |int k n=>cases n with
  |ofNat m=>exact⟨k,m,rfl,h⟩
  |negSucc m=>simp[asNat] at h
 |_=>simp[asNat] at h
section
variable {s:Nat→Nat} {n:Nat} {F:Nat→Prop} {h:Heap}
theorem bu.one{x:AV}{l:List AV}(r:bu s n F h [x] l):∃y,l=[y]∧Rel s n F h x y:=by
 obtain⟨y,l',rfl,h1,h2⟩:=r.cons_inv;rw[h2.oB];exact⟨y,rfl,h1⟩
theorem bu.two{x y:AV}{l:List AV}(r:bu s n F h [x,y] l):∃x' y',l=[x',y']∧Rel s n F h x x'∧Rel s n F h y y':=by
 obtain⟨x',l',rfl,h1,h2⟩:=r.cons_inv;obtain⟨y',rfl,h3⟩:=h2.one;exact⟨x',y',rfl,h1,h3⟩
theorem bu.three{x y z:AV}{l:List AV}(r:bu s n F h [x,y,z] l):∃x' y' z',l=[x',y',z']∧Rel s n F h x x'∧Rel s n F h y y'∧Rel s n F h z z':=by
 obtain⟨x',l',rfl,h1,h2⟩:=r.cons_inv;obtain⟨y',z',rfl,h3,h4⟩:=h2.two;exact⟨x',y',z',rfl,h1,h3,h4⟩
theorem bu.jO{l l':List AV}(r:bu s n F h l l')(hp:nk l=true):l'=l:=by
 have:Rel s n F h (.agg l) (.agg l'):=.agg r.1 r.2;have:=this.jO (by simpa[AV.pl] using hp);simpa using this
theorem Ey{cs cs':List AV}{off m:Nat}{g:Bool}{v:AV}(r:bu s n F h cs cs')(hp:part cs off m g=some v):∃v',part cs' off m g=some v'∧Rel s n F h v v':=by
 cases g with
 |true=>
  simp only[part,cond_true] at hp⊢;cases hb:Nat.ble (off+m) cs.length with
  |false=>simp[hb] at hp
  |true=>
   simp only[hb,cond_true,Option.some.injEq] at hp;subst hp;rw[←r.1,hb];exact⟨_,rfl,.agg ((r.drop off).take m).1 ((r.drop off).take m).2⟩
 |false=>
  simp only[part,cond_false] at hp⊢;exact r.get hp
theorem uV:∀{ps:List (Nat×Nat)} {zs zs':List AV} {vs vs' cs:List AV},bu s n F h zs zs'→bu s n F h vs vs'→fill zs ps vs=some cs→∃cs',fill zs' ps vs'=some cs'∧bu s n F h cs cs'
 |[],zs,zs',[],vs',cs,r,q,hf=>by
  rw[q.oB];simp only[fill,Option.some.injEq] at hf⊢;subst hf;exact⟨zs',rfl,r⟩
 |[],zs,zs',v::vs,vs',cs,r,q,hf=>by simp[fill] at hf
 |(o,m)::ps,zs,zs',[],vs',cs,r,q,hf=>by simp[fill] at hf
 |(o,m)::ps,zs,zs',v::vs,vs',cs,r,q,hf=>by
  obtain⟨w,ws,rfl,h1,h2⟩:=q.cons_inv;simp only[fill] at hf⊢;have jQ:=h1.cells;rw[←jQ.1,←r.1];cases hb:(Nat.beq v.cells.length m&&Nat.ble (o+m) zs.length) with
  |false=>simp[hb] at hf
  |true=>
   simp only[hb,cond_true] at hf⊢;simp only[Bool.and_eq_true] at hb;have e1:=Nat.eq_of_beq_eq_true hb.1;have e2:=Nat.le_of_ble_eq_true hb.2;exact uV (r.splice jQ o (by omega)) h2 hf
theorem Is{op:BinOp}{k:IntKind}{x y:Int}{v:AV}(hv:ug op k x y=some v):v.pl=true:=by
 cases op<;>simp only[ug] at hv
 case quo|rem=>
  by_cases hy:y=0
  ·simp[hy] at hv
  ·simp[hy] at hv;subst hv;rfl
 all_goals (simp at hv;try(subst hv;rfl))
theorem OC{op:BinOp}{x y v:AV}(hv:Ao op x y=some v):x.pl=true∧y.pl=true∧v.pl=true:=by
 cases x<;>cases y<;>simp only[Ao] at hv<;>try(simp at hv;done)
 ·rename_i k a k' b;refine⟨rfl,rfl,?_⟩;cases hs:lR op with
  |true=>
   simp only[hs,cond_true,oX] at hv;by_cases hb:b<0
   ·simp[hb] at hv
   ·simp only[hb,decide_false,cond_false] at hv;split at hv<;>simp at hv<;>subst hv<;>rfl
  |false=>
   simp only[hs,cond_false] at hv;by_cases hk:k=k'
   ·simp only[hk,decide_true,cond_true] at hv;exact Is hv
   ·simp[hk] at hv
 ·refine⟨rfl,rfl,?_⟩;rename_i a b;cases op<;>simp only[Cg] at hv
  case add=>
   cases hb:Nat.ble (a.length+b.length) 9223372036854775807 with
   |false=>simp[hb] at hv
   |true=>simp[hb] at hv;subst hv;rfl
  all_goals (simp at hv;try(subst hv;rfl))
theorem yL{f:AV→AV→Option AV}(hf:∀x y z,f x y=some z→x.pl=true∧y.pl=true∧z.pl=true):∀{l:List AV} {x v:AV},mQ f x l=some v→(l=[]→x.pl=true)→x.pl=true∧nk l=true∧v.pl=true
 |[],x,v,hv,hx=>by simp[mQ] at hv;subst hv;exact⟨hx rfl,rfl,hx rfl⟩
 |y::l,x,v,hv,_=>by
  simp only[mQ] at hv;cases hz:f x y with
  |none=>simp[hz] at hv
  |some z=>
   simp only[hz] at hv;obtain⟨g1,g2,g3⟩:=hf x y z hz;obtain⟨g4,g5,g6⟩:=yL hf hv (fun _=>g3);exact⟨g1,by simp[nk,g2,g5],g6⟩
theorem PF(x y z:AV)(hz:max2 x y=some z):x.pl=true∧y.pl=true∧z.pl=true:=by
 cases x<;>cases y<;>simp[max2] at hz<;>subst hz<;>exact⟨rfl,rfl,rfl⟩
theorem PJ(x y z:AV)(hz:min2 x y=some z):x.pl=true∧y.pl=true∧z.pl=true:=by
 cases x<;>cases y<;>simp[min2] at hz<;>subst hz<;>exact⟨rfl,rfl,rfl⟩
def kg(f:Bool)(d:Nat)(l:List AV):Option (Nat×List AV):=
 match f,l with
 |false,l=>some (d,l)
 |true,v::l=>(asNat v).map fun n=>(n,l)
 |true,[]=>none
theorem vS(len cap:Nat)(lo hi mx:Bool)(args:List AV):bounds len cap lo hi mx args=match kg lo 0 args with
 |none=>none
 |some (l,r)=>match kg hi len r with
  |none=>none
  |some (h,r)=>match kg mx cap r with
   |none=>none
   |some (m,_)=>cond (Nat.ble l h&&Nat.ble h m&&Nat.ble m cap) (some (l,h,m)) none:=rfl
theorem wI{f:Bool}{d:Nat}{l l':List AV}(r:bu s n F h l l'){k:Nat}{m:List AV}(hh:kg f d l=some (k,m)):∃m',kg f d l'=some (k,m')∧bu s n F h m m':=by
 cases f with
 |false=>simp only[kg,Option.some.injEq,Prod.mk.injEq] at hh⊢;obtain⟨rfl,rfl⟩:=hh;exact⟨l',⟨rfl,rfl⟩,r⟩
 |true=>
  cases l with
  |nil=>simp[kg] at hh
  |cons x l=>
   obtain⟨y,m',rfl,h1,h2⟩:=r.cons_inv;simp only[kg,Option.map_eq_some_iff,Prod.mk.injEq] at hh⊢;obtain⟨a,ha,rfl,rfl⟩:=hh;refine⟨m',⟨a,?_,rfl,rfl⟩,h2⟩;cases x<;>simp[asNat] at ha
   cases h1
   exact ha
theorem iN{len cap:Nat}{lo hi mx:Bool}{l l':List AV}{t:Nat×Nat×Nat}(r:bu s n F h l l')(hb:bounds len cap lo hi mx l=some t):bounds len cap lo hi mx l'=some t:=by
 rw[vS] at hb⊢;cases e1:kg lo 0 l with
 |none=>simp[e1] at hb
 |some p1=>
 obtain⟨a,m1⟩:=p1;obtain⟨m1',oY,r1⟩:=wI r e1;simp only[e1] at hb;simp only[oY];cases e2:kg hi len m1 with
 |none=>simp[e2] at hb
 |some p2=>
 obtain⟨b,m2⟩:=p2;obtain⟨m2',Cp,r2⟩:=wI r1 e2;simp only[e2] at hb;simp only[Cp];cases e3:kg mx cap m2 with
 |none=>simp[e3] at hb
 |some p3=>
 obtain⟨c,m3⟩:=p3;obtain⟨m3',IK,r3⟩:=wI r2 e3;simp only[e3] at hb;simp only[IK];exact hb
theorem dN:∀{l:List AV} {z i:Nat} {x:AV},aW z l=true→l[i]?=some x→x.cells.length=z
 |[],z,i,x,_,hx=>by simp at hx
 |y::l,z,0,x,hp,hx=>by simp at hx;subst hx;simp only[aW,Bool.and_eq_true] at hp;exact Nat.eq_of_beq_eq_true hp.1
 |y::l,z,i+1,x,hp,hx=>by simp only[aW,Bool.and_eq_true] at hp;exact dN hp.2 (by simpa using hx)
theorem lX{z:Nat}:∀{l:List AV},aW z l=true↔∀(i:Nat) (x:AV),l[i]?=some x→x.cells.length=z
 |[]=>by simp[aW]
 |y::l=>by
  constructor
  ·intro hp i x hx;exact dN hp hx
  ·intro hp;simp only[aW,Bool.and_eq_true];exact⟨by rw[hp 0 y rfl];simp,lX.2 fun i x hx=>hp (i+1) x (by simpa using hx)⟩
theorem ua{l:List AV}{a b:Nat}(h1:aW a l=true)(h2:aW b l=true)(hne:l≠[]):a=b:=by
 cases l with
 |nil=>exact absurd rfl hne
 |cons x l=>
  have e1:=dN (i:=0) h1 rfl;have e2:=dN (i:=0) h2 rfl;omega
theorem Rel.vh{k:IntKind}{i:Int}{w:AV}(r:Rel s n F h (.int k i) w):w=.int k i:=by cases r;rfl
theorem Rel.Dv{b:Bool}{w:AV}(r:Rel s n F h (.bool b) w):w=.bool b:=by cases r;rfl
theorem Rel.Uh{b:Bool}{v:AV}(r:Rel s n F h v (.bool b)):v=.bool b:=by cases r;rfl
theorem gN{o:sH}{vals vals':List AV}{v:AV}(r:bu s n F h vals vals')(hp:pI o vals=some v)(hl:nk vals=true)(hv:v.pl=true):∃v',pI o vals'=some v'∧Rel s n F h v v':=by
 rw[r.jO hl];exact⟨v,hp,.eR hv⟩
theorem mU{len cap:Nat}{lo hi mx:Bool}{l:List AV}{a b c:Nat}(hb:bounds len cap lo hi mx l=some (a,b,c)):a≤b∧b≤c∧c≤cap:=by
 rw[vS] at hb;cases e1:kg lo 0 l with
 |none=>simp[e1] at hb
 |some p1=>
 obtain⟨a1,m1⟩:=p1;simp only[e1] at hb;cases e2:kg hi len m1 with
 |none=>simp[e2] at hb
 |some p2=>
 obtain⟨b1,m2⟩:=p2;simp only[e2] at hb;cases e3:kg mx cap m2 with
 |none=>simp[e3] at hb
 |some p3=>
 obtain⟨c1,m3⟩:=p3;simp only[e3] at hb;cases hc:(Nat.ble a1 b1&&Nat.ble b1 c1&&Nat.ble c1 cap) with
 |false=>simp[hc] at hb
 |true=>
  simp only[hc,cond_true,Option.some.injEq,Prod.mk.injEq] at hb;obtain⟨rfl,rfl,rfl⟩:=hb;simp only[Bool.and_eq_true] at hc;exact⟨Nat.le_of_ble_eq_true hc.1.1,Nat.le_of_ble_eq_true hc.1.2,Nat.le_of_ble_eq_true hc.2⟩
theorem Dw{len cap:Nat}{lo hi mx:Bool}{l:List AV}{a b c:Nat}(hb:bounds len len lo hi mx l=some (a,b,c))(hle:len≤cap):bounds len cap lo hi mx l=some (a,b,cond mx c cap):=by
 have hf:=mU hb;rw[vS] at hb⊢;cases e1:kg lo 0 l with
 |none=>simp[e1] at hb
 |some p1=>
 obtain⟨a1,m1⟩:=p1;simp only[e1] at hb⊢;cases e2:kg hi len m1 with
 |none=>simp[e2] at hb
 |some p2=>
 obtain⟨b1,m2⟩:=p2;simp only[e2] at hb⊢;cases mx with
 |false=>
  simp only[kg] at hb⊢;cases hc:(Nat.ble a1 b1&&Nat.ble b1 len&&Nat.ble len len) with
  |false=>simp[hc] at hb
  |true=>
   simp only[hc,cond_true,Option.some.injEq,Prod.mk.injEq] at hb;obtain⟨rfl,rfl,rfl⟩:=hb;have:(Nat.ble a1 b1&&Nat.ble b1 cap&&Nat.ble cap cap)=true:=by
    simp only[Bool.and_eq_true];exact⟨⟨Nat.ble_eq_true_of_le hf.1,Nat.ble_eq_true_of_le (by omega)⟩,Nat.ble_eq_true_of_le (Nat.le_refl _)⟩
   rw[this];rfl
 |true=>
  have IK:∀d d',kg true d m2=kg true d' m2:=fun _ _=>by cases m2<;>rfl
  rw[IK cap len];cases e3:kg true len m2 with
  |none=>simp[e3] at hb
  |some p3=>
  obtain⟨c1,m3⟩:=p3;simp only[e3] at hb⊢;cases hc:(Nat.ble a1 b1&&Nat.ble b1 c1&&Nat.ble c1 len) with
  |false=>simp[hc] at hb
  |true=>
   simp only[hc,cond_true,Option.some.injEq,Prod.mk.injEq] at hb;obtain⟨rfl,rfl,rfl⟩:=hb;have:(Nat.ble a1 b1&&Nat.ble b1 c1&&Nat.ble c1 cap)=true:=by
    simp only[Bool.and_eq_true];exact⟨⟨Nat.ble_eq_true_of_le hf.1,Nat.ble_eq_true_of_le hf.2.1⟩,Nat.ble_eq_true_of_le (by omega)⟩
   rw[this];rfl
theorem yw{k:Nat}(hk:k≤2):Nat.beq k 3=false:=by
 cases hq:Nat.beq k 3 with
 |false=>rfl
 |true=>have:=Nat.eq_of_beq_eq_true hq;omega
theorem JI{size:Nat}{lo hi m:Bool}{k:Nat}{l r r':List AV}{w v:AV}(hw:Rel s n F h (.fz k l) w)(q:bu s n F h r r')(hp:lG size lo hi m k l r=some v):
  ∃v',pI (.slice size lo hi m) (w::r')=some v'∧Rel s n F h v v':=by
 cases hw with
 |jL=>
  unfold lG at hp;split at hp
  ·rename_i a hh mm hb;have Cx:=mU hb;simp only[List.length_nil] at Cx;have ha:a=0:=by omega
   subst ha;have Bx:=iN q hb;simp only[List.length_nil] at Bx;have hv:AV.fz 3 []=v:=by
    simp only[List.length_nil,aW,cond_true,cV,List.drop_nil,List.take_nil,show Nat.beq 3 0=false from rfl,show Nat.beq 3 3=true from rfl,Bool.and_false,Bool.false_and,cond_false,Option.some.injEq] at hp;exact hp
   subst hv;exact⟨.aD,by simp only[pI,Bx],.jL⟩
  ·simp at hp
 |@Bw k a hk=>
  unfold lG at hp;split at hp
  ·rename_i a1 hh mm hb;have Cx:=mU hb;simp only[List.length_nil] at Cx;have ha:a1=0:=by omega
   subst ha;have Bx:=iN q hb;simp only[List.length_nil] at Bx;simp only[List.length_nil,show Nat.beq 0 0=true from rfl,Bool.not_true,Bool.and_false,cond_false,aW,cond_true,List.drop_nil,List.take_nil,Option.some.injEq] at hp;subst hp;refine⟨.gO a,by simp only[pI,Bx],.Bw ?_⟩;simp only[cV,yw hk,cond_false];cases m
   ·cases Nat.beq hh 0<;>simp<;>omega
   ·cases Nat.beq mm hh<;>simp
  ·simp at hp
 |@fz _ _ b o len cap op vs wr es z hf hg h1 h2 h3 h4 qQ h5 h6 h7=>
 subst h2;have FV:Nat.beq k 3=false:=by
  cases hq:Nat.beq k 3 with
  |false=>rfl
  |true=>have:=Nat.eq_of_beq_eq_true hq;omega
 have Q8:∀(m:Bool) (hh mm:Nat),cV k m hh mm l.length≤2:=by
  intro m hh mm;simp only[cV,FV,cond_false];cases m
  ·cases Nat.beq hh l.length<;>simp<;>omega
  ·cases Nat.beq mm hh<;>simp
 unfold lG at hp;split at hp
 ·rename_i a hh mm hb;have Cx:=mU hb;cases hc:(Nat.beq a l.length&&Nat.beq k 0&&!Nat.beq a 0) with
  |true=>simp[hc] at hp
  |false=>
   simp only[hc,cond_false] at hp;cases hz:aW size l with
   |false=>simp[hz] at hp
   |true=>
    simp only[hz,cond_true,Option.some.injEq] at hp;subst hp;have hb':=iN q (Dw hb h4);simp only[pI,hb'];have hk:a=l.length→(op&&!Nat.beq a 0)=false:=by
     intro e;cases BC:Nat.beq a 0 with
     |true=>simp
     |false=>
      rw[BC,e] at hc;simp only[Nat.beq_refl,Bool.true_and,Bool.not_false,Bool.and_true] at hc;rw[h5 (by cases k with|zero=>simp at hc|succ k=>omega)];rfl
    have mR:(Nat.beq (cond m mm cap) a&&Nat.beq cap (cond m mm cap)&&(op&&!m&&!Nat.beq a 0))=false:=by
     cases hq:(Nat.beq (cond m mm cap) a&&Nat.beq cap (cond m mm cap)) with
     |false=>rfl
     |true=>
      simp only[Bool.and_eq_true] at hq;have e1:=Nat.eq_of_beq_eq_true hq.1;have e2:=Nat.eq_of_beq_eq_true hq.2;have qQ:=hk (by omega);have Sx:(op&&!m&&!Nat.beq a 0)=false:=by revert qQ;cases op<;>cases m<;>cases Nat.beq a 0<;>simp
      rw[Sx];rfl
    rw[mR];refine⟨_,rfl,?_⟩;by_cases hne:hh-a=0
    ·
     rw[hne];simp only[List.take_zero];refine .fz (z:=z) (o:=o+cond (Nat.beq (cond m mm cap) a) 0 (a*size)) (vs:=vs) hf hg rfl rfl ?_ (by omega) (Q8 _ _ _) ?_ ?_ (fun i x j c y hx=>by simp at hx)
     ·simp only[List.length_nil,Nat.zero_mul,Nat.add_zero];cases QZ:Nat.beq (cond m mm cap) a with
      |true=>simp;omega
      |false=>
       simp only[cond_false];by_cases V4:l=[]
       ·subst V4;simp at Cx⊢;have:a=0:=by omega
        subst this;simp;omega
       ·have:=ua h1 hz V4;subst this;have:a*z≤l.length*z:=Nat.mul_le_mul_right _ (by omega);omega
     ·intro AA;cases m with
      |true=>rfl
      |false=>
       simp only[cond_false];simp only[cV,FV,cond_false] at AA;refine h5 ?_;cases hq:Nat.beq hh l.length<;>simp only[hq,cond_true,cond_false] at AA<;>omega
     ·intro hk2;cases m with
      |true=>
       simp only[cV,FV,cond_true,cond_false] at hk2⊢;cases hq:Nat.beq mm hh with
       |false=>simp[hq] at hk2
       |true=>have:=Nat.eq_of_beq_eq_true hq;omega
      |false=>
       simp only[cV,FV,cond_false] at hk2⊢;cases hq:Nat.beq hh l.length with
       |false=>simp only[hq,cond_false] at hk2;omega
       |true=>
        simp only[hq,cond_true] at hk2;have:=h6 hk2;have:=Nat.eq_of_beq_eq_true hq;omega
    ·have V4:l≠[]:=by rintro rfl;simp at Cx;omega
     have hzz:=ua h1 hz V4;subst hzz;have hmm:Nat.beq (cond m mm cap) a=false:=by
      cases hq:Nat.beq (cond m mm cap) a with
      |false=>rfl
      |true=>have:=Nat.eq_of_beq_eq_true hq;cases m<;>simp at this<;>omega
     rw[hmm];simp only[cond_false];have Hw:((l.drop a).take (hh-a)).length=hh-a:=by simp;omega
     refine .fz (z:=z) (vs:=vs) hf hg ?_ Hw.symm ?_ ?_ (Q8 _ _ _) ?_ ?_ ?_
     ·refine lX.2 fun i x hx=>?_;rw[List.getElem?_take] at hx;split at hx
      ·rw[List.getElem?_drop] at hx;exact dN h1 hx
      ·simp at hx
     ·rw[Hw];have:a*z+(hh-a)*z≤l.length*z:=by rw[←Nat.add_mul];exact Nat.mul_le_mul_right _ (by omega)
      omega
     ·cases m<;>simp<;>omega
     ·intro AA;cases m with
      |true=>rfl
      |false=>
       simp only[cond_false];simp only[cV,FV,cond_false] at AA;refine h5 ?_;cases hq:Nat.beq hh l.length<;>simp only[hq,cond_true,cond_false] at AA<;>omega
     ·intro hk2;cases m with
      |true=>
       simp only[cV,FV,cond_true,cond_false] at hk2⊢;cases hq:Nat.beq mm hh with
       |false=>simp[hq] at hk2
       |true=>have:=Nat.eq_of_beq_eq_true hq;omega
      |false=>
       simp only[cV,FV,cond_false] at hk2⊢;cases hq:Nat.beq hh l.length with
       |false=>simp only[hq,cond_false] at hk2;omega
       |true=>
        simp only[hq,cond_true] at hk2;have:=h6 hk2;have:=Nat.eq_of_beq_eq_true hq;omega
     ·intro i x j c y hx hc hy;rw[List.getElem?_take] at hx;split at hx
      ·rw[List.getElem?_drop] at hx;refine h7 (a+i) x j c y hx hc ?_;rw[←hy]
       congr 1
       rw[Nat.add_mul];omega
      ·simp at hx
 ·simp at hp
theorem Bk{s:Nat→Nat}{n:Nat}{F:Nat→Prop}{h:Heap}{k:Nat}{x y x' y':AV}{b:Bool}(r1:Rel s n F h x x')(r2:Rel s n F h y y')(he:qK k x y=some b):qK k x' y'=some b:=by
 unfold qK at he;split at he
 ·cases r1;cases r2;exact he
 ·cases r1;cases r2;exact he
 ·cases r1;cases r2;exact he
 ·simp at he
theorem rq{s:Nat→Nat}{n:Nat}{F:Nat→Prop}{h:Heap}:∀(ks:List Nat) {xs ys xs' ys':List AV} {b:Bool},bu s n F h xs xs'→bu s n F h ys ys'→eC ks xs ys=some b→eC ks xs' ys'=some b
 |[],_,_,_,_,_,_,_,he=>he
 |k::ks,[],_,_,_,_,_,_,he=>by simp[eC] at he
 |k::ks,_::_,[],_,_,_,_,_,he=>by simp[eC] at he
 |k::ks,x::xs,y::ys,[],_,_,r1,_,_=>by have:=r1.1;simp at this
 |k::ks,x::xs,y::ys,_::_,[],_,_,r2,_=>by have:=r2.1;simp at this
 |k::ks,x::xs,y::ys,x'::xs',y'::ys',b,r1,r2,he=>by
  have hx:=r1.2 0 x x' rfl rfl;have hy:=r2.2 0 y y' rfl rfl;have rx:bu s n F h xs xs':=⟨by have:=r1.1;simpa using this,fun i a c ha hc=>r1.2 (i+1) a c (by simpa using ha) (by simpa using hc)⟩;have ry:bu s n F h ys ys':=⟨by have:=r2.1;simpa using this,fun i a c ha hc=>r2.2 (i+1) a c (by simpa using ha) (by simpa using hc)⟩;simp only[eC] at he⊢;split at he
  ·rename_i h1;rw[Bk hx hy h1];exact rq ks rx ry he
  ·rename_i h1;rw[Bk hx hy h1];exact he
  ·simp at he
theorem Mu{o:sH}{vals vals':List AV}{v:AV}(r:bu s n F h vals vals')(hc:Mx o=true)(hp:pV o vals=some v):∃v',pI o vals'=some v'∧Rel s n F h v v':=by
 cases o with
 |J3=>
  obtain⟨x,rfl,hx⟩:=fR (show l1 vals some=some v from hp);obtain⟨y,rfl,hy⟩:=r.one;cases hx
  exact⟨y,rfl,hy⟩
 |pick=>
  obtain⟨c,a,b,rfl,hx⟩:=Px (show l3 vals _=some v from hp);obtain⟨c',a',b',rfl,h1,h2,h3⟩:=r.three;replace hx:=yB hx;obtain⟨t,rfl,hx⟩:=hx;rw[h1.Dv];cases hx
  cases t
  ·exact⟨b',rfl,h3⟩
  ·exact⟨a',rfl,h2⟩
 |bin op=>
  obtain⟨x,y,rfl,hx⟩:=qi (show l2 vals (Fp op)=some v from hp);rw[G7] at hx;obtain⟨g1,g2,g3⟩:=OC hx;exact gN r (show pI (.bin op) [x,y]=some v from hx) (by simp[nk,g1,g2]) g3
 |eq k=>
  simp only[pV] at hp;split at hp
  ·rename_i x y;obtain⟨x',y',rfl,h1,h2⟩:=r.two;split at hp
   ·split at hp
    ·cases hp
     cases h2
     cases h1 with
     |jL=>exact⟨_,rfl,.bool⟩
     |Bw hk=>exact⟨_,by rw[yw hk];rfl,.bool⟩
     |fz _ _ _ _ _ _ hk=>exact⟨_,by rw[yw hk];rfl,.bool⟩
    ·simp at hp
   ·split at hp
    ·cases hp;cases h1;cases h2;exact⟨_,rfl,.bool⟩
    ·simp at hp
   ·split at hp
    ·split at hp
     ·cases hp
      cases h1
      cases h2 with
      |jL=>exact⟨_,rfl,.bool⟩
      |Bw hk=>exact⟨_,by rw[yw hk];rfl,.bool⟩
      |fz _ _ _ _ _ _ hk=>exact⟨_,by rw[yw hk];rfl,.bool⟩
     ·simp at hp
    ·split at hp
     ·cases hp;cases h1;cases h2;exact⟨_,rfl,.bool⟩
     ·simp at hp
    ·simp only[Option.map_eq_some_iff] at hp;obtain⟨t,ht,rfl⟩:=hp;refine⟨.bool t,?_,.bool⟩;simp only[pI,Option.map_eq_some_iff];refine⟨t,?_,rfl⟩;cases k<;>cases x<;>cases y<;>simp only[Dd] at ht<;>first|(simp at ht;done)|(cases h1;done)|(cases h2;done)|(cases h1;cases h2;exact ht)|(cases h1 with|agg a1 a2=>cases h2 with|agg b1 b2=>exact rq _ ⟨a1,a2⟩ ⟨b1,b2⟩ ht)
  ·simp at hp
 |neq k=>
  simp only[pV] at hp;split at hp
  ·rename_i x y;obtain⟨x',y',rfl,h1,h2⟩:=r.two;split at hp
   ·split at hp
    ·cases hp
     cases h2
     cases h1 with
     |jL=>exact⟨_,rfl,.bool⟩
     |Bw hk=>exact⟨_,by rw[yw hk];rfl,.bool⟩
     |fz _ _ _ _ _ _ hk=>exact⟨_,by rw[yw hk];rfl,.bool⟩
    ·simp at hp
   ·split at hp
    ·cases hp;cases h1;cases h2;exact⟨_,rfl,.bool⟩
    ·simp at hp
   ·split at hp
    ·split at hp
     ·cases hp
      cases h1
      cases h2 with
      |jL=>exact⟨_,rfl,.bool⟩
      |Bw hk=>exact⟨_,by rw[yw hk];rfl,.bool⟩
      |fz _ _ _ _ _ _ hk=>exact⟨_,by rw[yw hk];rfl,.bool⟩
     ·simp at hp
    ·split at hp
     ·cases hp;cases h1;cases h2;exact⟨_,rfl,.bool⟩
     ·simp at hp
    ·simp only[Option.map_eq_some_iff] at hp;obtain⟨t,ht,rfl⟩:=hp;refine⟨.bool !t,?_,.bool⟩;simp only[pI,Option.map_eq_some_iff];refine⟨t,?_,rfl⟩;cases k<;>cases x<;>cases y<;>simp only[Dd] at ht<;>first|(simp at ht;done)|(cases h1;done)|(cases h2;done)|(cases h1;cases h2;exact ht)|(cases h1 with|agg a1 a2=>cases h2 with|agg b1 b2=>exact rq _ ⟨a1,a2⟩ ⟨b1,b2⟩ ht)
  ·simp at hp
 |not=>
  obtain⟨x,rfl,hx⟩:=fR (show l1 vals _=some v from hp);replace hx:=yB hx;obtain⟨t,rfl,hx⟩:=hx;cases hx
  exact gN r rfl rfl rfl
 |neg=>
  obtain⟨x,rfl,hx⟩:=fR (show l1 vals _=some v from hp);replace hx:=Bf hx;obtain⟨k,t,rfl,hx⟩:=hx;cases hx
  exact gN r rfl rfl rfl
 |conv k=>
  obtain⟨x,rfl,hx⟩:=fR (show l1 vals _=some v from hp);replace hx:=Bf hx;obtain⟨k,t,rfl,hx⟩:=hx;cases hx
  exact gN r rfl rfl rfl
 |HV=>
  obtain⟨x,rfl,hx⟩:=fR (show l1 vals _=some v from hp);replace hx:=sN hx;obtain⟨t,rfl,hx⟩:=hx;cases hx
  exact gN r rfl rfl rfl
 |field off m g=>
  obtain⟨x,rfl,hx⟩:=fR (show l1 vals _=some v from hp);replace hx:=Be hx;obtain⟨cs,rfl,hx⟩:=hx;obtain⟨y,rfl,hy⟩:=r.one;cases hy with
  |agg h1 h2=>exact Ey ⟨h1,h2⟩ hx
 |ext i=>
  obtain⟨x,rfl,hx⟩:=fR (show l1 vals _=some v from hp);replace hx:=IF hx;obtain⟨cs,rfl,hx⟩:=hx;obtain⟨y,rfl,hy⟩:=r.one;cases hy with
  |cQ h1 h2=>exact bu.get ⟨h1,h2⟩ hx
 |rQ=>
  obtain⟨x,rfl,hx⟩:=fR (show l1 vals _=some v from hp);obtain⟨y,rfl,hy⟩:=r.one;split at hx
  ·cases hx
   cases hy with
   |fp g1 g2 g3 g4 g5=>exact⟨_,rfl,.fp g1 g2 g3 g4 g5⟩
  ·cases hx
   cases hy with
   |ptr g=>exact⟨_,rfl,.ptr g⟩
  ·simp at hx
 |yH off=>
  obtain⟨x,rfl,hx⟩:=fR (show l1 vals _=some v from hp);obtain⟨y,rfl,hy⟩:=r.one;split at hx
  ·cases hx
   cases hy with
   |fp g1 g2 g3 g4 g5=>exact⟨_,rfl,.fp g1 g2 (by omega) g4 g5⟩
  ·cases hx
   cases hy with
   |ptr g=>exact⟨_,rfl,.ptr g⟩
  ·simp at hx
 |aE size=>
  obtain⟨x,i,rfl,hx⟩:=qi (show l2 vals _=some v from hp);obtain⟨x',i',rfl,h1,h2⟩:=r.two;split at hx
  ·rename_i k l;replace hx:=m8 hx;obtain⟨kk,m,rfl,hx⟩:=hx;rw[h2.vh];split at hx
   ·rename_i y hy;cases hq:Nat.beq y.cells.length size with
    |false=>simp[hq] at hx
    |true=>
     simp only[hq,cond_true,Option.some.injEq] at hx;subst hx;have hs:=Nat.eq_of_beq_eq_true hq;cases h1 with
     |jL=>simp at hy
     |Bw=>simp at hy
     |@fz _ _ b o len cap op vs wr es z hf hg g1 g2 g3 g4 _ g5 g6 g7=>
      have hz:=dN g1 hy;have hzs:z=size:=by omega
      subst hzs;have hm:=(List.getElem?_eq_some_iff.1 hy).1;subst g2;have hmz:m*z+z≤l.length*z:=by rw[←Nat.succ_mul];exact Nat.mul_le_mul_right _ hm
      refine⟨.ptr b (o+m*z),?_,.fp (base:=o+m*z) hf hg rfl (by omega) ?_⟩
      ·simp only[pI,asNat];rw[Nat.ble_eq_true_of_le (by omega)];rfl
      ·intro j c w hc hw;exact g7 m y j c w hy hc (by rw[←hw];congr 1;omega)
   ·simp at hx
  ·replace hx:=m8 hx;obtain⟨kk,m,rfl,hx⟩:=hx;rw[h2.vh];rename_i b o len cap op;cases h1 with
   |sl g=>
    cases hq:Nat.ble (m+1) len with
    |false=>simp[hq] at hx
    |true=>
     simp only[hq,cond_true,Option.some.injEq] at hx;subst hx;exact⟨_,by simp only[pI,asNat,hq];rfl,.ptr g⟩
  ·simp at hx
 |bT size len=>
  obtain⟨x,i,rfl,hx⟩:=qi (show l2 vals _=some v from hp);obtain⟨x',i',rfl,h1,h2⟩:=r.two;split at hx
  ·replace hx:=m8 hx;obtain⟨kk,m,rfl,hx⟩:=hx;rw[h2.vh];cases hq:Nat.ble (m+1) len with
   |false=>simp[hq] at hx
   |true=>
    simp only[hq,cond_true,Option.some.injEq] at hx;subst hx;cases h1 with
    |fp g1 g2 g3 g4 g5=>exact⟨_,by simp only[pI,asNat,hq];rfl,.fp g1 g2 (by omega) g4 g5⟩
  ·replace hx:=m8 hx;obtain⟨kk,m,rfl,hx⟩:=hx;rw[h2.vh];cases hq:Nat.ble (m+1) len with
   |false=>simp[hq] at hx
   |true=>
    simp only[hq,cond_true,Option.some.injEq] at hx;subst hx;cases h1 with
    |ptr g=>exact⟨_,by simp only[pI,asNat,hq];rfl,.ptr g⟩
  ·simp at hx
 |IZ size len g=>
  obtain⟨x,i,rfl,hx⟩:=qi (show l2 vals _=some v from hp);obtain⟨x',i',rfl,h1,h2⟩:=r.two;replace hx:=Be hx;obtain⟨cs,rfl,hx⟩:=hx;replace hx:=m8 hx;obtain⟨kk,m,rfl,hx⟩:=hx;rw[h2.vh];cases hq:Nat.ble (m+1) len with
  |false=>simp[hq] at hx
  |true=>
   simp only[hq,cond_true] at hx;cases h1 with
   |agg g1 g2=>
    obtain⟨v',BB,hr'⟩:=Ey ⟨g1,g2⟩ hx;exact⟨v',by simp only[pI,asNat,hq,cond_true];exact BB,hr'⟩
 |I0=>
  have iD:=hp;obtain⟨x,i,rfl,hx⟩:=qi (show l2 vals _=some v from hp);replace hx:=sN hx;obtain⟨l,rfl,hx⟩:=hx;replace hx:=m8 hx;obtain⟨kk,m,rfl,hx⟩:=hx;simp only[Option.map_eq_some_iff] at hx;obtain⟨b,hb,rfl⟩:=hx;exact gN r (by simp only[pI,asNat,hb,Option.map_some]) rfl rfl
 |build zs ps=>
  have iD:(fill zs ps vals).map .agg=some v:=hp;simp only[Option.map_eq_some_iff] at iD;obtain⟨cs,hcs,rfl⟩:=iD;obtain⟨cs',h1,h2⟩:=uV (zs':=zs) (by
   have:Rel s n F h (.agg zs) (.agg zs):=.eR (by simpa[AV.pl,Mx] using hc);cases this with|agg g1 g2=>exact⟨g1,g2⟩) r hcs
  exact⟨.agg cs',by simp only[pI,h1,Option.map_some],.agg h2.1 h2.2⟩
 |vo t=>
  obtain⟨x,rfl,hx⟩:=fR (show l1 vals _=some v from hp);obtain⟨y,rfl,hy⟩:=r.one;cases hx
  exact⟨_,rfl,.iface hy⟩
 |gJ fn m=>
  have iD:some (AV.func fn (vals.take m) (vals.drop m))=some v:=hp;cases iD
  exact⟨_,rfl,.func (r.take m).1 (r.take m).2 (r.drop m).1 (r.drop m).2⟩
 |bO=>
  obtain⟨x,rfl,hx⟩:=fR (show l1 vals _=some v from hp);obtain⟨y,rfl,hy⟩:=r.one;split at hx
  ·cases hx
   cases hy with
   |fz g1 g2 g3 g4 g5 g6 _ g7 g8 g9=>subst g4;exact⟨_,rfl,.int⟩
   |jL=>exact⟨_,rfl,.int⟩
   |Bw=>exact⟨_,rfl,.int⟩
  ·cases hx
   cases hy with
   |sl g=>exact⟨_,rfl,.int⟩
  ·cases hx
   cases hy
   exact⟨_,rfl,.int⟩
  ·cases hx
   cases hy
   exact⟨_,rfl,.int⟩
  ·simp at hx
 |CG=>
  obtain⟨x,rfl,hx⟩:=fR (show l1 vals _=some v from hp);replace hx:=sN hx;obtain⟨t,rfl,hx⟩:=hx;cases hx
  exact gN r rfl rfl rfl
 |I4 m=>
  have iD:some (AV.int .i64 m)=some v:=hp;cases iD
  exact⟨_,by unfold pI;rfl,.int⟩
 |mx=>
  obtain⟨x,l,rfl,hx⟩:=vj (show lc vals _=some v from hp);cases l with
  |nil=>
   obtain⟨y,rfl,hy⟩:=r.one;simp only[mQ,Option.some.injEq] at hx;subst hx;exact⟨y,rfl,hy⟩
  |cons z l=>
   obtain⟨g1,g2,g3⟩:=yL PF hx (fun e=>by simp at e);exact gN r (show pI .mx (x::z::l)=some v from hx) (by simp only[nk,g1,Bool.true_and];exact g2) g3
 |mn=>
  obtain⟨x,l,rfl,hx⟩:=vj (show lc vals _=some v from hp);cases l with
  |nil=>
   obtain⟨y,rfl,hy⟩:=r.one;simp only[mQ,Option.some.injEq] at hx;subst hx;exact⟨y,rfl,hy⟩
  |cons z l=>
   obtain⟨g1,g2,g3⟩:=yL PJ hx (fun e=>by simp at e);exact gN r (show pI .mn (x::z::l)=some v from hx) (by simp only[nk,g1,Bool.true_and];exact g2) g3
 |slice size lo hi m=>
  obtain⟨x,l,rfl,hx⟩:=vj (show lc vals _=some v from hp);obtain⟨y,l',rfl,h1,h2⟩:=r.cons_inv;split at hx
  ·exact JI h1 h2 hx
  ·unfold GH at hx;cases x with
   |sl b o len cap op=>
    simp only[Ui] at hx;cases h1 with
    |sl g=>
     split at hx
     ·rename_i a hh mm hb;simp only[pI,iN h2 hb];cases hq:(Nat.beq mm a&&Nat.beq cap mm&&(op&&!m&&!Nat.beq a 0)) with
      |true=>
       simp only[hq,cond_true,Option.some.injEq] at hx;subst hx;exact⟨_,rfl,.rest g⟩
      |false=>
       simp only[hq,cond_false,Option.some.injEq] at hx;subst hx;exact⟨_,rfl,.sl g⟩
     ·simp at hx
   |aD=>
    simp only[Ui] at hx;cases h1
    split at hx
    ·rename_i hb;cases hx
     simp only[pI,iN h2 hb];exact⟨_,rfl,.aD⟩
    ·simp at hx
   |gO a=>cases h1
   |rest b o k=>
    cases h1 with
    |rest g=>
     have hx:(match bounds 0 0 lo hi m l with|some _=>bif m then none else some (.rest b o k)|none=>none)=some v:=hx;split at hx
     ·rename_i hb;cases m with
      |true=>simp at hx
      |false=>
       simp only[cond_false,Option.some.injEq] at hx;subst hx;simp only[pI,iN h2 hb,cond_false];exact⟨_,rfl,.rest g⟩
     ·simp at hx
   |_=>simp[Ui] at hx
 |nS lo hi=>
  obtain⟨x,l,rfl,hx⟩:=vj (show lc vals _=some v from hp);obtain⟨y,l',rfl,h1,h2⟩:=r.cons_inv;replace hx:=sN hx;obtain⟨t,rfl,hx⟩:=hx;cases h1
  split at hx
  ·rename_i a hh mm hb;cases hx
   simp only[pI,iN h2 hb];exact⟨_,rfl,.str⟩
  ·simp at hx
 |iY size len lo hi m=>
  obtain⟨x,l,rfl,hx⟩:=vj (show lc vals _=some v from hp);obtain⟨y,l',rfl,h1,h2⟩:=r.cons_inv;replace hx:=IE hx;obtain⟨b,o,rfl,hx⟩:=hx;cases h1 with
  |ptr g=>
   split at hx
   ·rename_i a hh mm hb;cases hx
    simp only[pI,iN h2 hb];exact⟨_,rfl,.sl g⟩
   ·simp at hx
 |qD t ok z=>
  obtain⟨x,rfl,hx⟩:=fR (show l1 vals _=some v from hp);obtain⟨y,rfl,hy⟩:=r.one;have hz:Rel s n F h z z:=.eR (by simpa[Mx] using hc);split at hx
  ·rename_i u w;cases hy with
   |iface g=>
    simp only[pI];cases hq:Nat.beq u t with
    |true=>
     simp only[hq,cond_true,Option.some.injEq] at hx⊢;subst hx;refine⟨_,rfl,?_⟩;cases ok
     ·exact g
     ·have:=bu.cons g (bu.cons (x:=.bool true) .bool .nil);exact .cQ this.1 this.2
    |false=>
     simp only[hq,cond_false] at hx⊢;cases ok with
     |false=>simp at hx
     |true=>
      simp only[cond_true,Option.some.injEq] at hx⊢;subst hx;have:=bu.cons hz (bu.cons (x:=.bool false) .bool .nil);exact⟨_,rfl,.cQ this.1 this.2⟩
  ·cases hy
   simp only[pI];cases ok with
   |false=>simp at hx
   |true=>
    simp only[cond_true,Option.some.injEq] at hx⊢;subst hx;have:=bu.cons hz (bu.cons (x:=.bool false) .bool .nil);exact⟨_,rfl,.cQ this.1 this.2⟩
  ·simp at hx
end
end Ads
end Go.Proofs.Ytepdklcpagielaa
