/-
  What is made and what is written in Vs, done in Ads.
-/
import Derived.Test.YtmnolnoeibhjgaaGreatVsMem
set_option linter.unusedVariables false
set_option linter.unusedSimpArgs false
namespace Go.Proofs.YtmnolnoeibhjgaaGreat
namespace Ads
section
variable {s:Nat→Nat} {F:Nat→Prop} {g h:Heap}
theorem aX.dU{n:Nat}{l:List AV}(hp:kS l=true):aX s n F h l l:=by
 have:Rel s n F h (.agg l) (.agg l):=.dU (by simpa[AV.pl] using hp);cases this with|agg a b=>exact⟨a,b⟩
theorem qu{zs:List AV}(hz:kS zs=true):∀k,kS (dN zs k)=true
 |0=>rfl
 |k+1=>by
  have app:∀l m:List AV,kS l=true→kS m=true→kS (l++m)=true:=by
   intro l;induction l with
   |nil=>intro m _ hm;exact hm
   |cons x l ih=>intro m hl hm;simp only[kS,Bool.and_eq_true] at hl;simp only[List.cons_append,kS,hl.1,Bool.true_and];exact ih m hl.2 hm
  exact app _ _ hz (qu hz k)
theorem xI{n:Nat}{x y:AV}{k:Nat}(r:Rel s n F h x y)(ha:asNat x=some k):asNat y=some k:=by
 cases x<;>simp[asNat] at ha
 cases r
 exact ha
theorem JE{n:Nat}{zs zs' vs vs' cs:List AV}{ps:List (Nat×Nat)}(a:aX s n F h zs zs')(b:aX s n F h vs vs')(hf:fill zs ps vs=some cs):∃cs',fill zs' ps vs'=some cs'∧aX s n F h cs cs':=sg a b hf
theorem Nw(r:HR s F g h){o:PT}{vals vals':List AV}{x:bP}{f:Nat→AV}(q:aX s g.next F h vals vals')(hc:CR (.a o)=true)(hp:aI o vals=some (x,f)):
  ∃x',aI o vals'=some (x',f)∧BR s g.next F h x x'∧∀{s1 n1 F1 h1},g.next<n1→Rel s1 n1 F1 h1 (f g.next) (f (s1 g.next)):=by
 unfold aI at hp;split at hp
 ·rename_i zs;cases hp
  rw[q.l8];exact⟨_,rfl,.cells (.dU (by simpa[CR] using hc)) id,fun hn=>.ptr hn⟩
 ·rename_i v;cases hp
  obtain⟨y,rfl,hy⟩:=q.one;exact⟨_,rfl,.cells hy.cells id,fun hn=>.ptr hn⟩
 ·rename_i zs len size parts;split at hp
  ·rename_i cs hcs;cases hp
   obtain⟨cs',h1,h2⟩:=sg (.dU (qu (by simpa[CR] using hc) len)) q hcs;exact⟨_,by simp only[aI,h1],.cells h2 id,fun hn=>.sl hn⟩
  ·simp at hp
 ·rename_i zs size bytes l c;obtain⟨l',c',rfl,h1,h2⟩:=q.two;split at hp
  ·rename_i a b ha hb;simp only[aI,xI h1 ha,xI h2 hb];cases hq:(Nat.ble a b&&Nat.ble (bytes*b) 140737488355328&&Nat.ble b 9223372036854775807) with
   |false=>simp[hq] at hp
   |true=>
    simp only[hq,cond_true,Option.some.injEq,Prod.mk.injEq] at hp⊢;obtain⟨rfl,rfl⟩:=hp;exact⟨_,⟨rfl,rfl⟩,.cells (.dU (qu (by simpa[CR] using hc) b)) id,fun hn=>.sl hn⟩
  ·simp at hp
 ·cases hp
  rw[q.l8];exact⟨_,rfl,.map ⟨rfl,fun i p q hp=>by simp at hp⟩,fun hn=>.map hn⟩
 ·simp at hp
theorem CY{n:Nat}{k k' v v':AV}(hk:Rel s n F h k k')(hv:Rel s n F h v v'):∀{es es':List (AV×AV)},rB s n F h es es'→∀{o:Option AV},findKey k es=some o→rB s n F h (putKey k v es) (putKey k' v' es'):=by
 intro es;induction es with
 |nil=>
  intro es' q o ho;have:es'=[]:=List.length_eq_zero_iff.1 (by simpa using q.1.symm);subst this;refine⟨rfl,fun i p p' hp iA=>?_⟩;cases i with
  |zero=>simp[putKey] at hp iA;subst hp iA;exact⟨hk,hv⟩
  |succ i=>simp[putKey] at hp
 |cons p es ih=>
  intro es' q o ho;cases es' with
  |nil=>have:=q.1;simp at this
  |cons p' es'=>
  obtain⟨x,u⟩:=p;obtain⟨x',u'⟩:=p';have h0:Rel s n F h x x'∧Rel s n F h u u':=q.2 0 _ _ rfl rfl;have ht:rB s n F h es es':=⟨by simpa using q.1,fun i a b ha hb=>q.2 (i+1) a b (by simpa using ha) (by simpa using hb)⟩;simp only[findKey] at ho;have cons:∀{a b:AV×AV} {l l':List (AV×AV)},(Rel s n F h a.1 b.1∧Rel s n F h a.2 b.2)→rB s n F h l l'→rB s n F h (a::l) (b::l'):=by
   intro a b l l' hab hl;refine⟨by simp[hl.1],fun i p p' hp iA=>?_⟩;cases i with
   |zero=>simp at hp iA;subst hp iA;exact hab
   |succ i=>exact hl.2 i p p' (by simpa using hp) (by simpa using iA)
  split at ho
  ·rename_i he;obtain⟨g1,g2⟩:=lZ he;have e1:k'=k:=hk.iK g1;have e2:x'=x:=h0.1.iK g2;subst e1 e2;simp only[putKey,he];exact cons ⟨hk,hv⟩ ht
  ·rename_i he;obtain⟨g1,g2⟩:=lZ he;have e1:k'=k:=hk.iK g1;have e2:x'=x:=h0.1.iK g2;subst e1 e2;simp only[putKey,he];exact cons ⟨h0.1,h0.2⟩ (ih ht ho)
  ·simp at ho
theorem nS(r:HR s F g h){new new':List AV}{size k:Nat}(q:aX s g.next F h new new'):
  Out g.next s F g h (j0 s g.next h.next) F (g.new (.cells new true size)) (h.new (.cells new' true size))∧
  Rel (j0 s g.next h.next) (g.new (.cells new true size)).next F (h.new (.cells new' true size)) (.sl g.next 0 k k true) (.sl h.next 0 k k true):=by
 refine⟨sy r (.cells q id),?_⟩;have:j0 s g.next h.next g.next=h.next:=by unfold j0;rw[if_pos rfl]
 have hr:=Rel.sl (s:=j0 s g.next h.next) (n:=g.next+1) (F:=F) (h:=h.new (.cells new' true size)) (b:=g.next) (o:=0) (len:=k) (cap:=k) (op:=true) (by omega);rw[this] at hr;exact hr
theorem NJ(r:HR s F g h){o:wW}{vals vals':List AV}{v:AV}{g1:Heap}(q:aX s g.next F h vals vals')(hc:CR (.e o)=true)(hp:eV o vals g=some (v,g1)):
  ∃s1 v' h1,eI o vals' h=some (v',h1)∧Out g.next s F g h s1 F g1 h1∧Rel s1 g1.next F h1 v v':=by
 cases o with
 |store n=>
  have iA:eI (.store n) vals g=some (v,g1):=hp;unfold eI at iA;split at iA<;>rename_i heq<;>try(simp at heq;done)
  ·cases heq
   rename_i b o u;obtain⟨x',u',rfl,h1,h2⟩:=q.two;cases h1 with
   |ptr hb=>
    cases hn:Nat.beq u.cells.length n with
    |false=>simp[hn] at iA
    |true=>
     simp only[hn,cond_true,Option.map_eq_some_iff,Prod.mk.injEq] at iA;obtain⟨g2,hs,rfl,rfl⟩:=iA;obtain⟨h1,a1,a2,a3⟩:=qp r h2.cells hs;exact⟨s,.undef,h1,by simp only[eI];rw[←h2.cells.1,hn,a1];rfl,a2,.undef⟩
  ·simp at iA
 |append size bytes=>
  obtain⟨a,x,rfl,hx⟩:=nL (show l2 vals _=some (v,g1) from hp);obtain⟨a',x',rfl,h1,h2⟩:=q.two;split at hx
  ·simp at hx
  ·rename_i k new hsrc;obtain⟨new',e1,e2⟩:=pF r h2 hsrc;have hfl:=e2.flat;simp only[eI,e1,hfl];cases hf:bz new with
   |false=>simp[hf] at hx
   |true=>
    simp only[hf,cond_true] at hx⊢;cases h1 with
    |az=>
     simp only at hx⊢;cases hk:Nat.beq k 0 with
     |true=>
      simp only[hk,cond_true,Option.some.injEq,Prod.mk.injEq] at hx;obtain⟨rfl,rfl⟩:=hx;exact⟨s,_,_,rfl,.refl r (Nat.le_refl _),.az⟩
     |false=>
      simp only[hk,cond_false] at hx⊢;cases hb:(Nat.ble (k*bytes) 140737488355328&&Nat.ble k 9223372036854775807) with
      |false=>simp[hb] at hx
      |true=>
       simp only[hb,cond_true,Option.some.injEq,Prod.mk.injEq] at hx⊢;obtain⟨rfl,rfl⟩:=hx;obtain⟨a1,a2⟩:=nS (k:=k) (size:=size) r e2;exact⟨_,_,_,⟨rfl,rfl⟩,a1,a2⟩
    |iJ=>
     simp only at hx⊢;cases hk:Nat.beq k 0 with
     |true=>
      simp only[hk,cond_true,Option.some.injEq,Prod.mk.injEq] at hx;obtain⟨rfl,rfl⟩:=hx;exact⟨s,_,_,rfl,.refl r (Nat.le_refl _),.iJ⟩
     |false=>
      simp only[hk,cond_false] at hx⊢;rw[show Nat.beq 3 3=true from rfl,cond_true] at hx;cases hb:(Nat.ble (k*bytes) 140737488355328&&Nat.ble k 9223372036854775807) with
      |false=>simp[hb] at hx
      |true=>
       simp only[hb,cond_true,Option.some.injEq,Prod.mk.injEq] at hx⊢;obtain⟨rfl,rfl⟩:=hx;obtain⟨a1,a2⟩:=nS (k:=k) (size:=size) r e2;exact⟨_,_,_,⟨rfl,rfl⟩,a1,a2⟩
    |@xW kk a lS=>
     simp only at hx⊢;cases hk:Nat.beq k 0 with
     |true=>
      simp only[hk,cond_true,Option.some.injEq,Prod.mk.injEq] at hx;obtain⟨rfl,rfl⟩:=hx;exact⟨s,_,_,rfl,.refl r (Nat.le_refl _),.xW lS⟩
     |false=>
      simp only[hk,cond_false,vc lS] at hx⊢;simp only[List.length_nil,Nat.zero_add,aL,Bool.and_true] at hx;cases hb:(Nat.beq kk 2&&Nat.ble (k*bytes) 140737488355328&&Nat.ble k 9223372036854775807) with
      |false=>simp[hb] at hx
      |true=>
       simp only[hb,cond_true,Option.some.injEq,Prod.mk.injEq] at hx;obtain⟨rfl,rfl⟩:=hx;simp only[Bool.and_eq_true] at hb;rw[hb.1.2,hb.2];simp only[Bool.and_self,cond_true];obtain⟨a1,a2⟩:=nS (k:=k) (size:=size) r e2;simp only[ak,List.flatMap_nil,List.nil_append];exact⟨_,_,_,rfl,a1,a2⟩
    |@fz kk l b o len cap op vs wr es z GZ hg f1 f2 f3 f4 lS f5 f6 f7=>
     simp only at hx⊢;subst f2;cases hk:Nat.beq k 0 with
     |true=>
      simp only[hk,cond_true,Option.some.injEq,Prod.mk.injEq] at hx;obtain⟨rfl,rfl⟩:=hx;rw[show(true&&Nat.ble l.length cap)=true by simp[Nat.ble_eq_true_of_le f4]];exact⟨s,_,_,rfl,.refl r (Nat.le_refl _),.fz GZ hg f1 rfl f3 f4 lS f5 f6 f7⟩
     |false=>
      simp only[hk,cond_false,Bool.false_and,vc lS] at hx⊢;cases hb:(Nat.beq kk 2&&Nat.ble ((l.length+k)*bytes) 140737488355328&&Nat.ble (l.length+k) 9223372036854775807&&aL size l) with
      |false=>simp[hb] at hx
      |true=>
       simp only[hb,cond_true,Option.some.injEq,Prod.mk.injEq] at hx;obtain⟨rfl,rfl⟩:=hx;simp only[Bool.and_eq_true] at hb;obtain⟨⟨⟨b1,b2⟩,b3⟩,b4⟩:=hb;have hk2:=Nat.eq_of_beq_eq_true b1;have hcap:cap=l.length:=f6 (by omega);have hop:op=false:=f5 (by omega);subst hcap hop;have hkp:¬l.length+k≤l.length:=by
        have:k≠0:=by rintro rfl;simp at hk
        omega
       have Xx:Nat.ble (l.length+k) l.length=false:=by
        cases hq:Nat.ble (l.length+k) l.length with
        |false=>rfl
        |true=>exact absurd (Nat.le_of_ble_eq_true hq) hkp
       obtain⟨old',o1,o2⟩:=pF (size:=size) (k:=l.length) (new:=ak l) r (.fz GZ hg f1 rfl f3 (Nat.le_refl _) lS f5 f6 f7) (by simp only[eY,b4,cond_true]);simp only[aP,Option.map_eq_some_iff,Prod.mk.injEq,true_and] at o1;obtain⟨old,o3,rfl⟩:=o1;rw[Xx,b2,b3,hg];simp only[cond_false,Bool.and_self,cond_true,o3];obtain⟨a1,a2⟩:=nS (k:=l.length+k) (size:=size) r (o2.append e2);exact⟨_,_,_,rfl,a1,a2⟩
    |@sl b o len cap op IZ=>
     simp only at hx⊢;cases wT:(Nat.beq k 0&&Nat.ble len cap) with
     |true=>
      simp only[wT,cond_true,Option.some.injEq,Prod.mk.injEq] at hx;obtain⟨rfl,rfl⟩:=hx;exact⟨s,_,_,rfl,.refl r (Nat.le_refl _),.sl IZ⟩
     |false=>
      simp only[wT,cond_false] at hx⊢;cases hle:Nat.ble (len+k) cap with
      |true=>
       simp only[hle,cond_true,Option.map_eq_some_iff,Prod.mk.injEq] at hx;obtain⟨g2,hs,rfl,rfl⟩:=hx;obtain⟨h1,a1,a2,a3⟩:=qp r e2 hs;refine⟨s,_,h1,by simp only[cond_true,a1,Option.map_some],a2,.sl ?_⟩;rw[a3];exact IZ
      |false=>
       simp only[hle,cond_false] at hx⊢;cases hb:(Nat.ble ((len+k)*bytes) 140737488355328&&Nat.ble (len+k) 9223372036854775807) with
       |false=>simp[hb] at hx
       |true=>
        simp only[hb,cond_true] at hx⊢;split at hx
        ·rename_i vs wr es old hg hold;obtain⟨vs',wr',hy,hr,hw⟩:=r.cells hg;obtain⟨old',o1,o2⟩:=kO r hold;simp only[hy,o1];cases op with
         |false=>
          simp only[cond_false,Option.some.injEq,Prod.mk.injEq] at hx⊢;obtain⟨rfl,rfl⟩:=hx;obtain⟨a1,a2⟩:=nS (k:=len+k) (size:=size) r (o2.append e2);exact⟨_,_,_,⟨rfl,rfl⟩,a1,a2⟩
         |true=>
          simp only[cond_true] at hx⊢;cases hq:(wr&&Nat.beq vs.length (o+len*size)&&Nat.beq cap len&&Nat.beq es size) with
          |false=>simp[hq] at hx
          |true=>
           simp only[hq,cond_true,Option.some.injEq,Prod.mk.injEq] at hx;obtain⟨rfl,rfl⟩:=hx;simp only[Bool.and_eq_true] at hq;obtain⟨⟨⟨q1,q2⟩,q3⟩,q4⟩:=hq;rw[hw q1,←hr.1,q2,q3,q4];simp only[Bool.and_self,cond_true];have d:=Jq r hg;have hmono:aX s (g.del b).next F (h.del (s b)) (old++new) (old'++new'):=
            (o2.append e2).mono (fun _ _=>rfl) (Nat.le_refl _) (fun _=>id) (d.jV r)
           obtain⟨a1,a2⟩:=nS (k:=len+k) (size:=size) d.hr hmono;exact⟨_,_,_,rfl,d.trans r a1,a2⟩
        ·simp at hx
    |_=>simp at hx
 |xH=>
  have iA:eI .xH vals g=some (v,g1):=hp;simp[eI] at iA
 |copy size=>
  obtain⟨d,x,rfl,hx⟩:=nL (show l2 vals _=some (v,g1) from hp);obtain⟨d',x',rfl,h1,h2⟩:=q.two;split at hx
  ·simp at hx
  ·rename_i k new hsrc;obtain⟨new',e1,e2⟩:=pF r h2 hsrc;split at hx
   ·cases hx
    cases h1
    exact⟨s,_,_,by simp only[eI,e1],.refl r (Nat.le_refl _),.int⟩
   ·rename_i b o len cap op;simp only[Option.map_eq_some_iff,Prod.mk.injEq] at hx;obtain⟨g2,hs,rfl,rfl⟩:=hx;cases h1 with
    |sl hb=>
     obtain⟨h1,a1,a2,a3⟩:=qp r (e2.take _) hs;exact⟨s,_,h1,by simp only[eI,e1,a1,Option.map_some],a2,.int⟩
   ·simp at hx
 |clear zs=>
  have iA:eI (.clear zs) vals g=some (v,g1):=hp;unfold eI at iA;split at iA<;>rename_i heq<;>try(simp at heq;done)
  ·cases heq
   obtain⟨d',rfl,h1⟩:=q.one;split at iA
   ·cases iA
    cases h1
    exact⟨s,_,_,rfl,.refl r (Nat.le_refl _),.undef⟩
   ·rename_i b o len cap op;simp only[Option.map_eq_some_iff,Prod.mk.injEq] at iA;obtain⟨g2,hs,rfl,rfl⟩:=iA;cases h1 with
    |sl hb=>
     obtain⟨h1,a1,a2,a3⟩:=qp r (.dU (qu (by simpa[CR] using hc) len)) hs;exact⟨s,_,h1,by simp only[eI,a1,Option.map_some],a2,.undef⟩
   ·simp at iA
  ·simp at iA
 |ins=>
  have iA:eI .ins vals g=some (v,g1):=hp;unfold eI at iA;split at iA<;>rename_i heq<;>try(simp at heq;done)
  ·rename_i b k u;obtain⟨m',l1,rfl,h1,q1⟩:=q.cons_inv;obtain⟨k',u',rfl,h2,h3⟩:=q1.two;cases h1 with
   |map hb=>
    split at iA
    ·rename_i es bs0 c0 hg;obtain⟨y,hy,zh⟩:=r.bH _ _ hg;cases zh with
     |map OG=>
      split at iA
      ·rename_i w hw;cases iA
       obtain⟨o',ho',R3⟩:=oU h2 OG hw;have Zy:∀(bs:List Nat) (c:Nat),oh o' bs c=oh w bs c∧vg o' c=vg w c:=by
        intro bs c;cases w<;>cases o'<;>simp only at R3<;>exact⟨rfl,rfl⟩
       refine⟨s,.undef,_,by simp only[eI,hy,ho',fun bs c=>(Zy bs c).1,fun c=>(Zy [] c).2],nU r (by rw[hg];simp) (.map (CY h2 h3 OG hw)) ?_,.undef⟩;intro st p e ps a c eE;rw[hy] at eE;simp at eE
      ·simp at iA
    ·simp at iA
  ·simp at iA
 |z4=>
  have iA:eI .z4 vals g=some (v,g1):=hp;unfold eI at iA;split at iA<;>rename_i heq<;>try(simp at heq;done)
  ·rename_i t;cases iA
   obtain⟨x',rfl,h1⟩:=q.one;cases h1
   have jn:kS (t.map fun b=>AV.int .u8 b.toNat)=true:=by
    clear hp q;induction t with
    |nil=>rfl
    |cons a t ih=>simp only[List.map_cons,kS,AV.pl,Bool.true_and];exact ih
   obtain⟨a1,a2⟩:=nS (k:=t.length) (size:=1) r (.dU jn);exact⟨_,_,_,by simp only[eI],a1,a2⟩
  ·simp at iA
 |range=>simp[eV] at hp
 |next=>simp[eV] at hp
 |HF=>simp[eV] at hp
theorem Js(r:HR s F g h){o:wW}{vals vals':List AV}{v:AV}{g1:Heap}(q:aX s g.next F h vals vals')(hp:W3 o vals g=some (v,g1)):
  ∃s1 v' h1,eK o vals' h=some (v',h1)∧Out g.next s F g h s1 F g1 h1∧Rel s1 g1.next F h1 v v':=by
 unfold W3 at hp;split at hp
 ·rename_i size bytes b o len cap x;obtain⟨a',x',rfl,h1,h2⟩:=q.two;cases h1 with
  |sl IZ=>
  split at hp
  ·simp at hp
  ·rename_i k new hsrc;obtain⟨new',e1,e2⟩:=pF r h2 hsrc;have hfl:=e2.flat;split at hp
   ·rename_i vs es old hg hold;obtain⟨vs',wr',hy,hr,hw⟩:=r.cells hg;obtain⟨old',o1,o2⟩:=kO r hold;cases hq:(bz new&&(!Nat.beq k 0&&Nat.ble ((len+k)*bytes) 140737488355328&&Nat.ble (len+k) 9223372036854775807)&&(Nat.beq vs.length (o+len*size)&&Nat.beq cap len&&Nat.beq es size)) with
    |false=>simp[hq] at hp
    |true=>
     simp only[hq,cond_true,Option.some.injEq,Prod.mk.injEq] at hp;obtain⟨rfl,rfl⟩:=hp;rw[hw rfl] at hy;have d:=nU (x:=.cells vs false es) (x':=.cells vs' false es) r (by rw[hg];simp) (.cells hr (fun e=>by simp at e)) (fun st p e ps a c hl=>by rw[hy] at hl;simp at hl);have hmono:aX s (g.set b (.cells vs false es)).next F (h.set (s b) (.cells vs' false es)) (old++new) (old'++new'):=
      (o2.append e2).mono (fun _ _=>rfl) (Nat.le_refl _) (fun _=>id) (d.jV r)
     have a1:=sy d.hr (x:=.cells (old++new) false size) (x':=.cells (old'++new') false size) (.cells hmono id);refine⟨_,.sl h.next 0 (len+k) (len+k) true,_,?_,d.trans r a1,?_⟩
     ·simp only[eK,e1,hy,o1];rw[←hr.1,hfl,hq];rfl
     ·have:j0 s g.next h.next g.next=h.next:=by unfold j0;rw[if_pos rfl]
      have hr:=Rel.sl (s:=j0 s g.next h.next) (n:=g.next+1) (F:=F) (h:=(h.set (s b) (.cells vs' false es)).new (.cells (old'++new') false size)) (b:=g.next) (o:=0) (len:=len+k) (cap:=len+k) (op:=true) (by omega);rw[this] at hr;exact hr
   ·simp at hp
 ·simp at hp
end
end Ads
end Go.Proofs.YtmnolnoeibhjgaaGreat
