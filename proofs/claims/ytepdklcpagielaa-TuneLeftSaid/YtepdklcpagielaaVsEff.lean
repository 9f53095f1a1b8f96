/-
  What is made and what is written in Vs, done in Ads.
-/
import Derived.Test.YtepdklcpagielaaVsMem
set_option linter.unusedVariables false
set_option linter.unusedSimpArgs false
namespace Go.Proofs.Ytepdklcpagielaa
namespace Ads
section
variable {s:Nat→Nat} {F:Nat→Prop} {g h:Heap}
theorem bu.eR{n:Nat}{l:List AV}(hp:nk l=true):bu s n F h l l:=by
 have:Rel s n F h (.agg l) (.agg l):=.eR (by simpa[AV.pl] using hp);cases this with|agg a b=>exact⟨a,b⟩
theorem tE{zs:List AV}(hz:nk zs=true):∀k,nk (ej zs k)=true
 |0=>rfl
 |k+1=>by
  have app:∀l m:List AV,nk l=true→nk m=true→nk (l++m)=true:=by
   intro l;induction l with
   |nil=>intro m _ hm;exact hm
   |cons x l ih=>intro m hl hm;simp only[nk,Bool.and_eq_true] at hl;simp only[List.cons_append,nk,hl.1,Bool.true_and];exact ih m hl.2 hm
  exact app _ _ hz (tE hz k)
theorem Bb{n:Nat}{x y:AV}{k:Nat}(r:Rel s n F h x y)(ha:asNat x=some k):asNat y=some k:=by
 cases x<;>simp[asNat] at ha
 cases r
 exact ha
theorem O0{n:Nat}{zs zs' vs vs' cs:List AV}{ps:List (Nat×Nat)}(a:bu s n F h zs zs')(b:bu s n F h vs vs')(hf:fill zs ps vs=some cs):∃cs',fill zs' ps vs'=some cs'∧bu s n F h cs cs':=uV a b hf
theorem Rz(r:HR s F g h){o:Uc}{vals vals':List AV}{x:dm}{f:Nat→AV}(q:bu s g.next F h vals vals')(hc:Gk (.a o)=true)(hp:aI o vals=some (x,f)):
  ∃x',aI o vals'=some (x',f)∧BR s g.next F h x x'∧∀{s1 n1 F1 h1},g.next<n1→Rel s1 n1 F1 h1 (f g.next) (f (s1 g.next)):=by
 unfold aI at hp;split at hp
 ·rename_i zs;cases hp
  rw[q.oB];exact⟨_,rfl,.cells (.eR (by simpa[Gk] using hc)) id,fun hn=>.ptr hn⟩
 ·rename_i v;cases hp
  obtain⟨y,rfl,hy⟩:=q.one;exact⟨_,rfl,.cells hy.cells id,fun hn=>.ptr hn⟩
 ·rename_i zs len size parts;split at hp
  ·rename_i cs hcs;cases hp
   obtain⟨cs',h1,h2⟩:=uV (.eR (tE (by simpa[Gk] using hc) len)) q hcs;exact⟨_,by simp only[aI,h1],.cells h2 id,fun hn=>.sl hn⟩
  ·simp at hp
 ·rename_i zs size bytes l c;obtain⟨l',c',rfl,h1,h2⟩:=q.two;split at hp
  ·rename_i a b ha hb;simp only[aI,Bb h1 ha,Bb h2 hb];cases hq:(Nat.ble a b&&Nat.ble (bytes*b) 140737488355328&&Nat.ble b 9223372036854775807) with
   |false=>simp[hq] at hp
   |true=>
    simp only[hq,cond_true,Option.some.injEq,Prod.mk.injEq] at hp⊢;obtain⟨rfl,rfl⟩:=hp;exact⟨_,⟨rfl,rfl⟩,.cells (.eR (tE (by simpa[Gk] using hc) b)) id,fun hn=>.sl hn⟩
  ·simp at hp
 ·cases hp
  rw[q.oB];exact⟨_,rfl,.map ⟨rfl,fun i p q hp=>by simp at hp⟩,fun hn=>.map hn⟩
 ·simp at hp
theorem Gu{n:Nat}{k k' v v':AV}(hk:Rel s n F h k k')(hv:Rel s n F h v v'):∀{es es':List (AV×AV)},uC s n F h es es'→∀{o:Option AV},findKey k es=some o→uC s n F h (putKey k v es) (putKey k' v' es'):=by
 intro es;induction es with
 |nil=>
  intro es' q o ho;have:es'=[]:=List.length_eq_zero_iff.1 (by simpa using q.1.symm);subst this;refine⟨rfl,fun i p p' hp iD=>?_⟩;cases i with
  |zero=>simp[putKey] at hp iD;subst hp iD;exact⟨hk,hv⟩
  |succ i=>simp[putKey] at hp
 |cons p es ih=>
  intro es' q o ho;cases es' with
  |nil=>have:=q.1;simp at this
  |cons p' es'=>
  obtain⟨x,u⟩:=p;obtain⟨x',u'⟩:=p';have h0:Rel s n F h x x'∧Rel s n F h u u':=q.2 0 _ _ rfl rfl;have ht:uC s n F h es es':=⟨by simpa using q.1,fun i a b ha hb=>q.2 (i+1) a b (by simpa using ha) (by simpa using hb)⟩;simp only[findKey] at ho;have cons:∀{a b:AV×AV} {l l':List (AV×AV)},(Rel s n F h a.1 b.1∧Rel s n F h a.2 b.2)→uC s n F h l l'→uC s n F h (a::l) (b::l'):=by
   intro a b l l' hab hl;refine⟨by simp[hl.1],fun i p p' hp iD=>?_⟩;cases i with
   |zero=>simp at hp iD;subst hp iD;exact hab
   |succ i=>exact hl.2 i p p' (by simpa using hp) (by simpa using iD)
  split at ho
  ·rename_i he;obtain⟨g1,g2⟩:=ou he;have e1:k'=k:=hk.jO g1;have e2:x'=x:=h0.1.jO g2;subst e1 e2;simp only[putKey,he];exact cons ⟨hk,hv⟩ ht
  ·rename_i he;obtain⟨g1,g2⟩:=ou he;have e1:k'=k:=hk.jO g1;have e2:x'=x:=h0.1.jO g2;subst e1 e2;simp only[putKey,he];exact cons ⟨h0.1,h0.2⟩ (ih ht ho)
  ·simp at ho
theorem qv(r:HR s F g h){new new':List AV}{size k:Nat}(q:bu s g.next F h new new'):
  Out g.next s F g h (mz s g.next h.next) F (g.new (.cells new true size)) (h.new (.cells new' true size))∧
  Rel (mz s g.next h.next) (g.new (.cells new true size)).next F (h.new (.cells new' true size)) (.sl g.next 0 k k true) (.sl h.next 0 k k true):=by
 refine⟨vq r (.cells q id),?_⟩;have:mz s g.next h.next g.next=h.next:=by unfold mz;rw[if_pos rfl]
 have hr:=Rel.sl (s:=mz s g.next h.next) (n:=g.next+1) (F:=F) (h:=h.new (.cells new' true size)) (b:=g.next) (o:=0) (len:=k) (cap:=k) (op:=true) (by omega);rw[this] at hr;exact hr
theorem RR(r:HR s F g h){o:Al}{vals vals':List AV}{v:AV}{g1:Heap}(q:bu s g.next F h vals vals')(hc:Gk (.e o)=true)(hp:eV o vals g=some (v,g1)):
  ∃s1 v' h1,eI o vals' h=some (v',h1)∧Out g.next s F g h s1 F g1 h1∧Rel s1 g1.next F h1 v v':=by
 cases o with
 |store n=>
  have iD:eI (.store n) vals g=some (v,g1):=hp;unfold eI at iD;split at iD<;>rename_i heq<;>try(simp at heq;done)
  ·cases heq
   rename_i b o u;obtain⟨x',u',rfl,h1,h2⟩:=q.two;cases h1 with
   |ptr hb=>
    cases hn:Nat.beq u.cells.length n with
    |false=>simp[hn] at iD
    |true=>
     simp only[hn,cond_true,Option.map_eq_some_iff,Prod.mk.injEq] at iD;obtain⟨g2,hs,rfl,rfl⟩:=iD;obtain⟨h1,a1,a2,a3⟩:=tB r h2.cells hs;exact⟨s,.undef,h1,by simp only[eI];rw[←h2.cells.1,hn,a1];rfl,a2,.undef⟩
  ·simp at iD
 |append size bytes=>
  obtain⟨a,x,rfl,hx⟩:=qi (show l2 vals _=some (v,g1) from hp);obtain⟨a',x',rfl,h1,h2⟩:=q.two;split at hx
  ·simp at hx
  ·rename_i k new hsrc;obtain⟨new',e1,e2⟩:=sj r h2 hsrc;have hfl:=e2.flat;simp only[eI,e1,hfl];cases hf:bx new with
   |false=>simp[hf] at hx
   |true=>
    simp only[hf,cond_true] at hx⊢;cases h1 with
    |aD=>
     simp only at hx⊢;cases hk:Nat.beq k 0 with
     |true=>
      simp only[hk,cond_true,Option.some.injEq,Prod.mk.injEq] at hx;obtain⟨rfl,rfl⟩:=hx;exact⟨s,_,_,rfl,.refl r (Nat.le_refl _),.aD⟩
     |false=>
      simp only[hk,cond_false] at hx⊢;cases hb:(Nat.ble (k*bytes) 140737488355328&&Nat.ble k 9223372036854775807) with
      |false=>simp[hb] at hx
      |true=>
       simp only[hb,cond_true,Option.some.injEq,Prod.mk.injEq] at hx⊢;obtain⟨rfl,rfl⟩:=hx;obtain⟨a1,a2⟩:=qv (k:=k) (size:=size) r e2;exact⟨_,_,_,⟨rfl,rfl⟩,a1,a2⟩
    |jL=>
     simp only at hx⊢;cases hk:Nat.beq k 0 with
     |true=>
      simp only[hk,cond_true,Option.some.injEq,Prod.mk.injEq] at hx;obtain⟨rfl,rfl⟩:=hx;exact⟨s,_,_,rfl,.refl r (Nat.le_refl _),.jL⟩
     |false=>
      simp only[hk,cond_false] at hx⊢;rw[show Nat.beq 3 3=true from rfl,cond_true] at hx;cases hb:(Nat.ble (k*bytes) 140737488355328&&Nat.ble k 9223372036854775807) with
      |false=>simp[hb] at hx
      |true=>
       simp only[hb,cond_true,Option.some.injEq,Prod.mk.injEq] at hx⊢;obtain⟨rfl,rfl⟩:=hx;obtain⟨a1,a2⟩:=qv (k:=k) (size:=size) r e2;exact⟨_,_,_,⟨rfl,rfl⟩,a1,a2⟩
    |@Bw kk a qQ=>
     simp only at hx⊢;cases hk:Nat.beq k 0 with
     |true=>
      simp only[hk,cond_true,Option.some.injEq,Prod.mk.injEq] at hx;obtain⟨rfl,rfl⟩:=hx;exact⟨s,_,_,rfl,.refl r (Nat.le_refl _),.Bw qQ⟩
     |false=>
      simp only[hk,cond_false,yw qQ] at hx⊢;simp only[List.length_nil,Nat.zero_add,aW,Bool.and_true] at hx;cases hb:(Nat.beq kk 2&&Nat.ble (k*bytes) 140737488355328&&Nat.ble k 9223372036854775807) with
      |false=>simp[hb] at hx
      |true=>
       simp only[hb,cond_true,Option.some.injEq,Prod.mk.injEq] at hx;obtain⟨rfl,rfl⟩:=hx;simp only[Bool.and_eq_true] at hb;rw[hb.1.2,hb.2];simp only[Bool.and_self,cond_true];obtain⟨a1,a2⟩:=qv (k:=k) (size:=size) r e2;simp only[ai,List.flatMap_nil,List.nil_append];exact⟨_,_,_,rfl,a1,a2⟩
    |@fz kk l b o len cap op vs wr es z wz hg f1 f2 f3 f4 qQ f5 f6 f7=>
     simp only at hx⊢;subst f2;cases hk:Nat.beq k 0 with
     |true=>
      simp only[hk,cond_true,Option.some.injEq,Prod.mk.injEq] at hx;obtain⟨rfl,rfl⟩:=hx;rw[show(true&&Nat.ble l.length cap)=true by simp[Nat.ble_eq_true_of_le f4]];exact⟨s,_,_,rfl,.refl r (Nat.le_refl _),.fz wz hg f1 rfl f3 f4 qQ f5 f6 f7⟩
     |false=>
      simp only[hk,cond_false,Bool.false_and,yw qQ] at hx⊢;cases hb:(Nat.beq kk 2&&Nat.ble ((l.length+k)*bytes) 140737488355328&&Nat.ble (l.length+k) 9223372036854775807&&aW size l) with
      |false=>simp[hb] at hx
      |true=>
       simp only[hb,cond_true,Option.some.injEq,Prod.mk.injEq] at hx;obtain⟨rfl,rfl⟩:=hx;simp only[Bool.and_eq_true] at hb;obtain⟨⟨⟨b1,b2⟩,b3⟩,b4⟩:=hb;have hk2:=Nat.eq_of_beq_eq_true b1;have hcap:cap=l.length:=f6 (by omega);have hop:op=false:=f5 (by omega);subst hcap hop;have hkp:¬l.length+k≤l.length:=by
        have:k≠0:=by rintro rfl;simp at hk
        omega
       have abb:Nat.ble (l.length+k) l.length=false:=by
        cases hq:Nat.ble (l.length+k) l.length with
        |false=>rfl
        |true=>exact absurd (Nat.le_of_ble_eq_true hq) hkp
       obtain⟨old',o1,o2⟩:=sj (size:=size) (k:=l.length) (new:=ai l) r (.fz wz hg f1 rfl f3 (Nat.le_refl _) qQ f5 f6 f7) (by simp only[iw,b4,cond_true]);simp only[aY,Option.map_eq_some_iff,Prod.mk.injEq,true_and] at o1;obtain⟨old,o3,rfl⟩:=o1;rw[abb,b2,b3,hg];simp only[cond_false,Bool.and_self,cond_true,o3];obtain⟨a1,a2⟩:=qv (k:=l.length+k) (size:=size) r (o2.append e2);exact⟨_,_,_,rfl,a1,a2⟩
    |@sl b o len cap op Vv=>
     simp only at hx⊢;cases BC:(Nat.beq k 0&&Nat.ble len cap) with
     |true=>
      simp only[BC,cond_true,Option.some.injEq,Prod.mk.injEq] at hx;obtain⟨rfl,rfl⟩:=hx;exact⟨s,_,_,rfl,.refl r (Nat.le_refl _),.sl Vv⟩
     |false=>
      simp only[BC,cond_false] at hx⊢;cases hle:Nat.ble (len+k) cap with
      |true=>
       simp only[hle,cond_true,Option.map_eq_some_iff,Prod.mk.injEq] at hx;obtain⟨g2,hs,rfl,rfl⟩:=hx;obtain⟨h1,a1,a2,a3⟩:=tB r e2 hs;refine⟨s,_,h1,by simp only[cond_true,a1,Option.map_some],a2,.sl ?_⟩;rw[a3];exact Vv
      |false=>
       simp only[hle,cond_false] at hx⊢;cases hb:(Nat.ble ((len+k)*bytes) 140737488355328&&Nat.ble (len+k) 9223372036854775807) with
       |false=>simp[hb] at hx
       |true=>
        simp only[hb,cond_true] at hx⊢;split at hx
        ·rename_i vs wr es old hg hold;obtain⟨vs',wr',hy,hr,hw⟩:=r.cells hg;obtain⟨old',o1,o2⟩:=nh r hold;simp only[hy,o1];cases op with
         |false=>
          simp only[cond_false,Option.some.injEq,Prod.mk.injEq] at hx⊢;obtain⟨rfl,rfl⟩:=hx;obtain⟨a1,a2⟩:=qv (k:=len+k) (size:=size) r (o2.append e2);exact⟨_,_,_,⟨rfl,rfl⟩,a1,a2⟩
         |true=>
          simp only[cond_true] at hx⊢;cases hq:(wr&&Nat.beq vs.length (o+len*size)&&Nat.beq cap len&&Nat.beq es size) with
          |false=>simp[hq] at hx
          |true=>
           simp only[hq,cond_true,Option.some.injEq,Prod.mk.injEq] at hx;obtain⟨rfl,rfl⟩:=hx;simp only[Bool.and_eq_true] at hq;obtain⟨⟨⟨q1,q2⟩,q3⟩,q4⟩:=hq;rw[hw q1,←hr.1,q2,q3,q4];simp only[Bool.and_self,cond_true];have d:=OJ r hg;have hmono:bu s (g.del b).next F (h.del (s b)) (old++new) (old'++new'):=
            (o2.append e2).mono (fun _ _=>rfl) (Nat.le_refl _) (fun _=>id) (d.mc r)
           obtain⟨a1,a2⟩:=qv (k:=len+k) (size:=size) d.hr hmono;exact⟨_,_,_,rfl,d.trans r a1,a2⟩
        ·simp at hx
    |_=>simp at hx
 |Ba=>
  have iD:eI .Ba vals g=some (v,g1):=hp;simp[eI] at iD
 |copy size=>
  obtain⟨d,x,rfl,hx⟩:=qi (show l2 vals _=some (v,g1) from hp);obtain⟨d',x',rfl,h1,h2⟩:=q.two;split at hx
  ·simp at hx
  ·rename_i k new hsrc;obtain⟨new',e1,e2⟩:=sj r h2 hsrc;split at hx
   ·cases hx
    cases h1
    exact⟨s,_,_,by simp only[eI,e1],.refl r (Nat.le_refl _),.int⟩
   ·rename_i b o len cap op;simp only[Option.map_eq_some_iff,Prod.mk.injEq] at hx;obtain⟨g2,hs,rfl,rfl⟩:=hx;cases h1 with
    |sl hb=>
     obtain⟨h1,a1,a2,a3⟩:=tB r (e2.take _) hs;exact⟨s,_,h1,by simp only[eI,e1,a1,Option.map_some],a2,.int⟩
   ·simp at hx
 |clear zs=>
  have iD:eI (.clear zs) vals g=some (v,g1):=hp;unfold eI at iD;split at iD<;>rename_i heq<;>try(simp at heq;done)
  ·cases heq
   obtain⟨d',rfl,h1⟩:=q.one;split at iD
   ·cases iD
    cases h1
    exact⟨s,_,_,rfl,.refl r (Nat.le_refl _),.undef⟩
   ·rename_i b o len cap op;simp only[Option.map_eq_some_iff,Prod.mk.injEq] at iD;obtain⟨g2,hs,rfl,rfl⟩:=iD;cases h1 with
    |sl hb=>
     obtain⟨h1,a1,a2,a3⟩:=tB r (.eR (tE (by simpa[Gk] using hc) len)) hs;exact⟨s,_,h1,by simp only[eI,a1,Option.map_some],a2,.undef⟩
   ·simp at iD
  ·simp at iD
 |ins=>
  have iD:eI .ins vals g=some (v,g1):=hp;unfold eI at iD;split at iD<;>rename_i heq<;>try(simp at heq;done)
  ·rename_i b k u;obtain⟨m',l1,rfl,h1,q1⟩:=q.cons_inv;obtain⟨k',u',rfl,h2,h3⟩:=q1.two;cases h1 with
   |map hb=>
    split at iD
    ·rename_i es bs0 c0 hg;obtain⟨y,hy,Ax⟩:=r.cj _ _ hg;cases Ax with
     |map SG=>
      split at iD
      ·rename_i w hw;cases iD
       obtain⟨o',ho',Nv⟩:=rB h2 SG hw;have hio:∀(bs:List Nat) (c:Nat),qI o' bs c=qI w bs c∧yz o' c=yz w c:=by
        intro bs c;cases w<;>cases o'<;>simp only at Nv<;>exact⟨rfl,rfl⟩
       refine⟨s,.undef,_,by simp only[eI,hy,ho',fun bs c=>(hio bs c).1,fun c=>(hio [] c).2],qx r (by rw[hg];simp) (.map (Gu h2 h3 SG hw)) ?_,.undef⟩;intro st p e ps a c fh;rw[hy] at fh;simp at fh
      ·simp at iD
    ·simp at iD
  ·simp at iD
 |C0=>
  have iD:eI .C0 vals g=some (v,g1):=hp;unfold eI at iD;split at iD<;>rename_i heq<;>try(simp at heq;done)
  ·rename_i t;cases iD
   obtain⟨x',rfl,h1⟩:=q.one;cases h1
   have m9:nk (t.map fun b=>AV.int .u8 b.toNat)=true:=by
    clear hp q;induction t with
    |nil=>rfl
    |cons a t ih=>simp only[List.map_cons,nk,AV.pl,Bool.true_and];exact ih
   obtain⟨a1,a2⟩:=qv (k:=t.length) (size:=1) r (.eR m9);exact⟨_,_,_,by simp only[eI],a1,a2⟩
  ·simp at iD
 |range=>simp[eV] at hp
 |next=>simp[eV] at hp
 |Me=>simp[eV] at hp
theorem OM(r:HR s F g h){o:Al}{vals vals':List AV}{v:AV}{g1:Heap}(q:bu s g.next F h vals vals')(hp:RQ o vals g=some (v,g1)):
  ∃s1 v' h1,eK o vals' h=some (v',h1)∧Out g.next s F g h s1 F g1 h1∧Rel s1 g1.next F h1 v v':=by
 unfold RQ at hp;split at hp
 ·rename_i size bytes b o len cap x;obtain⟨a',x',rfl,h1,h2⟩:=q.two;cases h1 with
  |sl Vv=>
  split at hp
  ·simp at hp
  ·rename_i k new hsrc;obtain⟨new',e1,e2⟩:=sj r h2 hsrc;have hfl:=e2.flat;split at hp
   ·rename_i vs es old hg hold;obtain⟨vs',wr',hy,hr,hw⟩:=r.cells hg;obtain⟨old',o1,o2⟩:=nh r hold;cases hq:(bx new&&(!Nat.beq k 0&&Nat.ble ((len+k)*bytes) 140737488355328&&Nat.ble (len+k) 9223372036854775807)&&(Nat.beq vs.length (o+len*size)&&Nat.beq cap len&&Nat.beq es size)) with
    |false=>simp[hq] at hp
    |true=>
     simp only[hq,cond_true,Option.some.injEq,Prod.mk.injEq] at hp;obtain⟨rfl,rfl⟩:=hp;rw[hw rfl] at hy;have d:=qx (x:=.cells vs false es) (x':=.cells vs' false es) r (by rw[hg];simp) (.cells hr (fun e=>by simp at e)) (fun st p e ps a c hl=>by rw[hy] at hl;simp at hl);have hmono:bu s (g.set b (.cells vs false es)).next F (h.set (s b) (.cells vs' false es)) (old++new) (old'++new'):=
      (o2.append e2).mono (fun _ _=>rfl) (Nat.le_refl _) (fun _=>id) (d.mc r)
     have a1:=vq d.hr (x:=.cells (old++new) false size) (x':=.cells (old'++new') false size) (.cells hmono id);refine⟨_,.sl h.next 0 (len+k) (len+k) true,_,?_,d.trans r a1,?_⟩
     ·simp only[eK,e1,hy,o1];rw[←hr.1,hfl,hq];rfl
     ·have:mz s g.next h.next g.next=h.next:=by unfold mz;rw[if_pos rfl]
      have hr:=Rel.sl (s:=mz s g.next h.next) (n:=g.next+1) (F:=F) (h:=(h.set (s b) (.cells vs' false es)).new (.cells (old'++new') false size)) (b:=g.next) (o:=0) (len:=len+k) (cap:=len+k) (op:=true) (by omega);rw[this] at hr;exact hr
   ·simp at hp
 ·simp at hp
end
end Ads
end Go.Proofs.Ytepdklcpagielaa
