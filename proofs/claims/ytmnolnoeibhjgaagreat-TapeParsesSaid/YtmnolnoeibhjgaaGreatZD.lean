/-
  Tape: rows that are read from; numbers out of bytes. Tape: the program's reader: numbers. Tape: the program's reader: its methods. Tape: the program's reader: texts. Tape: an entry, read: the rounds over a command's numbers, which may panic. Tape: an entry, read.
-/
import Derived.Test.YtmnolnoeibhjgaaGreatZC
import Derived.Test.YtmnolnoeibhjgaaGreatVsP
set_option maxRecDepth 100000
set_option linter.unusedSimpArgs false
set_option linter.unusedVariables false
namespace Go.Proofs.YtmnolnoeibhjgaaGreat
open Go Ads
namespace Ir
def Sv(I:Nat)(L:List Int)(v:AV)(X:List Int):Prop:=
 (v=.az∧X=[])∨(∃o k,v=.rest I o k∧X=[])∨∃o cap op,v=.sl I o X.length cap op∧X.length≤cap∧o+cap≤L.length∧X=(L.drop o).take X.length∧L≠[]
theorem Sv.az{I:Nat}{L:List Int}:Sv I L .az []:=.inl ⟨rfl,rfl⟩
theorem Sv.ne{I:Nat}{L:List Int}{v:AV}{X:List Int}(hs:Sv I L v X)(hx:X≠[]):L≠[]:=by
 rcases hs with⟨_,h⟩|⟨_,_,_,h⟩|⟨_,_,_,_,_,_,_,h⟩
 ·exact absurd h hx
 ·exact absurd h hx
 ·exact h
theorem Sv.cells{I:Nat}{L:List Int}{v:AV}{X:List Int}(hs:Sv I L v X):v.cells=[v]∧v.cells.length=1∧bz v.cells=true:=by
 rcases hs with⟨rfl,rfl⟩|⟨o,k,rfl,rfl⟩|⟨o,cap,op,rfl,_⟩<;>exact⟨rfl,rfl,rfl⟩
theorem Sv.len{I:Nat}{L:List Int}{v:AV}{X:List Int}(hs:Sv I L v X):pV .aV [v]=some (.int .i64 ((X.length:Nat):Int)):=by
 rcases hs with⟨rfl,rfl⟩|⟨o,k,rfl,rfl⟩|⟨o,cap,op,rfl,_⟩<;>rfl
theorem zu(n:Nat):asNat (.int .i64 ((n:Nat):Int))=some n:=by simp[asNat]
theorem Sv.from{I:Nat}{L:List Int}{v:AV}{X:List Int}(hs:Sv I L v X){lo:Nat}(hl:lo≤X.length):∃v',pV (.slice 1 true false false) [v,.int .i64 ((lo:Nat):Int)]=some v'∧Sv I L v' (X.drop lo):=by
 rcases hs with⟨rfl,rfl⟩|⟨o,k,rfl,rfl⟩|⟨o,cap,op,rfl,h1,h2,h3,h0⟩
 ·have:lo=0:=by simpa using hl
  subst this;exact⟨.az,rfl,.inl ⟨rfl,rfl⟩⟩
 ·have:lo=0:=by simpa using hl
  subst this;exact⟨.rest I o k,rfl,.inr (.inl ⟨o,k,rfl,rfl⟩)⟩
 ·have hb:bounds X.length cap true false false [.int .i64 ((lo:Nat):Int)]=some (lo,X.length,cap):=by
   simp only[bounds,zu,Option.map_some];rw[Nat.ble_eq_true_of_le hl,Nat.ble_eq_true_of_le h1,Nat.ble_eq_true_of_le (Nat.le_refl _)];rfl
  have hp:pV (.slice 1 true false false) [.sl I o X.length cap op,.int .i64 ((lo:Nat):Int)]=some (cond (Nat.beq cap lo&&Nat.beq cap cap&&(op&&true&&!Nat.beq lo 0)) (.rest I o (lo*1)) (.sl I (o+cond (Nat.beq cap lo) 0 (lo*1)) (X.length-lo) (cap-lo) op)):=by
   show lH 1 true false false (.sl I o X.length cap op) [.int .i64 ((lo:Nat):Int)]=_;simp only[lH,IU,hb,Bool.not_false,cond_false];cases(Nat.beq cap lo&&Nat.beq cap cap&&(op&&true&&!Nat.beq lo 0))<;>rfl
  refine⟨_,hp,?_⟩;have hlen:(X.drop lo).length=X.length-lo:=by simp
  cases hq:(Nat.beq cap lo&&Nat.beq cap cap&&(op&&true&&!Nat.beq lo 0)) with
  |true=>
   simp only[Bool.and_eq_true] at hq;have:=Nat.eq_of_beq_eq_true hq.1.1;refine .inr (.inl ⟨o,lo*1,rfl,?_⟩);exact List.eq_nil_of_length_eq_zero (by rw[hlen];omega)
  |false=>
   simp only[cond_false];cases hc:Nat.beq cap lo with
   |true=>
    have ju:=Nat.eq_of_beq_eq_true hc;have hz:X.drop lo=[]:=List.eq_nil_of_length_eq_zero (by rw[hlen];omega);refine .inr (.inr ⟨o,cap-lo,op,?_,?_,?_,?_,h0⟩)
    ·simp only[cond_true,Nat.add_zero,hlen]
    ·rw[hz];simp
    ·omega
    ·rw[hz];simp
   |false=>
    refine .inr (.inr ⟨o+lo,cap-lo,op,?_,?_,?_,?_,h0⟩)
    ·simp only[cond_false,Nat.mul_one,hlen]
    ·omega
    ·omega
    ·rw[hlen];conv=>lhs;rw[h3]
     rw[List.drop_take,List.drop_drop]
theorem Sv.to{I:Nat}{L:List Int}{v:AV}{X:List Int}(hs:Sv I L v X){hi:Nat}(hl:hi≤X.length):∃v',pV (.slice 1 false true false) [v,.int .i64 ((hi:Nat):Int)]=some v'∧Sv I L v' (X.take hi):=by
 rcases hs with⟨rfl,rfl⟩|⟨o,k,rfl,rfl⟩|⟨o,cap,op,rfl,h1,h2,h3,h0⟩
 ·have:hi=0:=by simpa using hl
  subst this;exact⟨.az,rfl,.inl ⟨rfl,rfl⟩⟩
 ·have:hi=0:=by simpa using hl
  subst this;exact⟨.rest I o k,rfl,.inr (.inl ⟨o,k,rfl,rfl⟩)⟩
 ·have hb:bounds X.length cap false true false [.int .i64 ((hi:Nat):Int)]=some (0,hi,cap):=by
   simp only[bounds,zu,Option.map_some];rw[Nat.ble_eq_true_of_le (Nat.zero_le _),Nat.ble_eq_true_of_le (show hi≤cap by omega),Nat.ble_eq_true_of_le (Nat.le_refl _)];rfl
  have hp:pV (.slice 1 false true false) [.sl I o X.length cap op,.int .i64 ((hi:Nat):Int)]=some (.sl I o hi cap op):=by
   show lH 1 false true false (.sl I o X.length cap op) [.int .i64 ((hi:Nat):Int)]=_;simp only[lH,IU,hb,Bool.not_false,cond_false];have:(Nat.beq cap 0&&Nat.beq cap cap&&(op&&true&&!Nat.beq 0 0))=false:=by simp
   rw[this];have wT:o+cond (Nat.beq cap 0) 0 (0*1)=o:=by cases Nat.beq cap 0<;>rfl
   simp only[cond_false,wT,Nat.sub_zero]
  refine⟨_,hp,.inr (.inr ⟨o,cap,op,?_,?_,h2,?_,h0⟩)⟩
  ·rw[List.length_take,Nat.min_eq_left hl]
  ·rw[List.length_take];omega
  ·rw[List.length_take,Nat.min_eq_left hl];conv=>lhs;rw[h3]
   rw[List.take_take,Nat.min_eq_left hl]
theorem Sv.mid{I:Nat}{L:List Int}{v:AV}{X:List Int}(hs:Sv I L v X){hi:Nat}(h1:1<hi)(hl:hi≤X.length):∃v',pV (.slice 1 true true false) [v,.int .i64 1,.int .i64 ((hi:Nat):Int)]=some v'∧Sv I L v' ((X.drop 1).take (hi-1)):=by
 rcases hs with⟨rfl,rfl⟩|⟨o,k,rfl,rfl⟩|⟨o,cap,op,rfl,g1,g2,g3,g0⟩
 ·simp at hl;omega
 ·simp at hl;omega
 ·have h1a:asNat (.int .i64 1)=some 1:=rfl;have hb:bounds X.length cap true true false [.int .i64 1,.int .i64 ((hi:Nat):Int)]=some (1,hi,cap):=by
   simp only[bounds,zu,h1a,Option.map_some];rw[Nat.ble_eq_true_of_le (show 1≤hi by omega),Nat.ble_eq_true_of_le (show hi≤cap by omega),Nat.ble_eq_true_of_le (Nat.le_refl _)];rfl
  have hc:Nat.beq cap 1=false:=by cases hq:Nat.beq cap 1 with|false=>rfl|true=>(have:=Nat.eq_of_beq_eq_true hq;omega)
  have hp:pV (.slice 1 true true false) [.sl I o X.length cap op,.int .i64 1,.int .i64 ((hi:Nat):Int)]=some (.sl I (o+1) (hi-1) (cap-1) op):=by
   show lH 1 true true false (.sl I o X.length cap op) [.int .i64 1,.int .i64 ((hi:Nat):Int)]=_;simp only[lH,IU,hb,Bool.not_false,cond_false,hc,Bool.false_and]
  have hlen:((X.drop 1).take (hi-1)).length=hi-1:=by rw[List.length_take,List.length_drop];omega
  refine⟨_,hp,.inr (.inr ⟨o+1,cap-1,op,by rw[hlen],by rw[hlen];omega,by omega,?_,g0⟩)⟩;rw[hlen];conv=>lhs;rw[g3]
  rw[List.drop_take,List.drop_drop,List.take_take,Nat.min_eq_left (by omega)]
theorem Sv.ix{I:Nat}{L:List Int}{v:AV}{X:List Int}(hs:Sv I L v X){i:Nat}(hi:i<X.length):∃q,pV (.aB 1) [v,.int .i64 ((i:Nat):Int)]=some q∧∀(h:Heap) wr es,h.get I=some (.cells (eD L) wr es)→rV .cP [q] h=some (.int .u8 X[i]):=by
 rcases hs with⟨rfl,rfl⟩|⟨o,k,rfl,rfl⟩|⟨o,cap,op,rfl,h1,h2,h3,h0⟩
 ·simp at hi
 ·simp at hi
 ·refine⟨.ptr I (o+i),?_,fun h wr es hg=>cM hg ?_⟩
  ·have b1:Nat.ble (i+1) X.length=true:=Nat.ble_eq_true_of_le hi;simp only[pV,l2,qw];show cond (Nat.ble (i+1) X.length) (some (AV.ptr I (o+i*1))) none=_;rw[b1,cond_true,Nat.mul_one]
  ·have hx:X[i]=L[o+i]'(by omega):=by
    have:X[i]?=((L.drop o).take X.length)[i]?:=by rw[←h3]
    rw[List.getElem?_take,if_pos hi,List.getElem?_drop,List.getElem?_eq_getElem hi,List.getElem?_eq_getElem (by omega)] at this;exact Option.some.inj this
   rw[hx];simp[eD,List.getElem?_map,List.getElem?_eq_getElem (show o+i<L.length by omega)]
theorem Sv.load{I:Nat}{L:List Int}{v:AV}{X:List Int}(hs:Sv I L v X){h:Heap}{wr:Bool}{es:Nat}(hg:h.get I=some (.cells (eD L) wr es)):eY 1 h v=some (X.length,eD X)∧rV .toStr [v] h=some (.str (qU X)):=by
 rcases hs with⟨rfl,rfl⟩|⟨o,k,rfl,rfl⟩|⟨o,cap,op,rfl,h1,h2,h3,h0⟩
 ·exact⟨rfl,rfl⟩
 ·exact⟨rfl,rfl⟩
 ·have hl:h.bt I o X.length=some (eD X):=by
   rw[ez hg (by rw[cq];omega)]
   congr 1
   conv=>rhs;rw[h3]
   simp[eD,List.map_take,List.map_drop]
  constructor
  ·show(h.bt I o (X.length*1)).map _=_;rw[Nat.mul_one,hl];rfl
  ·show rI .toStr [.sl I o X.length cap op] h=_;simp only[rI,hl,nY,Option.map_some]
theorem BR.sv{lo:Nat}{h:Heap}{v:AV}{M:List Int}(hr:BR lo h v M):∃I,lo≤I∧Sv I M v M∧(M=[]∨(∃wr es,h.get I=some (.cells (eD M) wr es))∧I<h.next):=by
 rcases hr with⟨h1,rfl⟩|⟨hne,b,h1,h2,rfl,h4⟩
 ·have:M=[]:=by cases M with|nil=>rfl|cons x r=>simp[eD] at h1
  subst this;exact⟨lo,Nat.le_refl _,.az,.inl rfl⟩
 ·rw[fJ] at h4;rw[cq] at*;exact⟨b,h1,.inr (.inr ⟨0,M.length,true,rfl,Nat.le_refl _,by omega,by simp,fun h=>hne (by rw[h];rfl)⟩),.inr ⟨⟨_,_,h4⟩,h2⟩⟩
def jx(v c:Int):Int:=IntKind.u64.wrap (BitVec.ofInt 64 (IntKind.u64.wrap (v*2^8))|||BitVec.ofInt 64 (IntKind.u64.wrap c)).toNat
def ki(l:List Int):Int:=l.foldl jx 0
def rN(most:Int):List Int→Int×Int×Nat
 |[]=>(3,0,0)
 |c::r=>if c=255 then(if r.length<8 then(3,0,0) else if ki (r.take 8)=0∨ki (r.take 8)>9007199254740737 then(4,0,0) else if 254+ki (r.take 8)>most then(5,0,0) else(0,254+ki (r.take 8),9))
  else if c>most then(5,0,0) else(0,c,1)
abbrev RS:=List Int×Int
def aQ(most:Int)(S:RS):Int×RS:=if S.2≠0 then(0,S) else if(rN most S.1).1≠0 then(0,[],(rN most S.1).1) else((rN most S.1).2.1,S.1.drop (rN most S.1).2.2,0)
def okB(X:List Int):Prop:=∀n∈X,0≤n∧n<256
theorem okB.drop{X:List Int}(h:okB X)(n:Nat):okB (X.drop n):=fun c hc=>h c (List.mem_of_mem_drop hc)
theorem okB.take{X:List Int}(h:okB X)(n:Nat):okB (X.take n):=fun c hc=>h c (List.mem_of_mem_take hc)
theorem sR(n:Int):IntKind.u64.wrap n=n%18446744073709551616:=by simp[IntKind.wrap,IntKind.signed,IntKind.bits]
theorem Fu(v c:Int):0≤jx v c:=by
 unfold jx;rw[sR];omega
theorem sS:∀(l:List Int) (a:Int),0≤a→0≤l.foldl jx a
 |[],a,h=>h
 |c::l,a,h=>sS l _ (Fu a c)
theorem v7{most:Int}{X:List Int}(h:okB X):0≤(rN most X).2.1∧(rN most X).2.2≤X.length∧((rN most X).1=0→(rN most X).2.1≤most):=by
 cases X with
 |nil=>simp[rN]
 |cons c r=>
  have hc:=h c (by simp);have hv:0≤ki (r.take 8):=sS (r.take 8) 0 (by omega);simp only[rN];generalize ki (r.take 8)=V at*;by_cases h1:c=255
  ·rw[if_pos h1];by_cases h2:r.length<8
   ·rw[if_pos h2];simp
   ·rw[if_neg h2];by_cases h3:V=0∨V>9007199254740737
    ·rw[if_pos h3];simp
    ·rw[if_neg h3];by_cases h4:254+V>most
     ·rw[if_pos h4];simp
     ·rw[if_neg h4];simp only[List.length_cons];exact⟨by omega,by omega,fun _=>by omega⟩
  ·rw[if_neg h1];by_cases h4:c>most
   ·rw[if_pos h4];simp
   ·rw[if_neg h4];simp only[List.length_cons];exact⟨hc.1,by omega,fun _=>by omega⟩
theorem Ec(x:Int):pV (.bin .shl) [.int .u64 x,.int .u64 8]=some (.int .u64 (IntKind.u64.wrap (x*2^8))):=by
 simp[pV,Kh,l2,Cc,y6,jL,mM];rfl
theorem SU{I:Nat}{L Y:List Int}{v8:AV}{h:Heap}{wr:Bool}{es:Nat}(hs:Sv I L v8 Y)(gI:h.get I=some (.cells (eD L) wr es))(hl:Y.length<2^62){a0 a1 a2 a5:AV}{B:Nat}{Q:AX→Env→Heap→Prop}
  (hQ:∀e',bQ e' [(6,.int .u64 (ki Y)),(0,a0),(1,a1),(2,a2),(5,a5)]→Q (.exit 0) e' h):
  ∀(m j:Nat) (env:Env),Y.length-j=m→j≤Y.length→bQ env [(6,.int .u64 ((Y.take j).foldl jx 0)),(38,v8),(39,.int .i64 ((Y.length:Nat):Int)),(40,.int .i64 ((j:Nat):Int)),(0,a0),(1,a1),(2,a2),(5,a5)]→
   VC fs ms B false (.loop js) env h Q:=by
 intro m;induction m with
 |zero=>
  intro j env hm hj bg;have he:j=Y.length:=by omega
  refine ay 6 _ bg ?_;refine aH (aa (z:=true) ?_);conv=>whnf
  refine k7 (by simp;omega) (fun hc=>?_)
  (try rw[hc])
  conv=>whnf
  subst he;exact hQ _ ⟨by rw[ki,←List.take_length (l:=Y)];simp only[List.take_length];rfl,rfl,rfl,rfl,rfl,trivial⟩
 |succ m ih=>
  intro j env hm hj bg;have hlt:j<Y.length:=by omega
  obtain⟨q,Ln,Lo⟩:=hs.ix hlt;have qI:=Lo h wr es gI;have hU:(Y.take (j+1)).foldl jx 0=jx ((Y.take j).foldl jx 0) Y[j]:=by
   rw[dz hlt,List.foldl_append];rfl
  generalize hc0:Y[j]=c at*;generalize(Y.take j).foldl jx 0=acc at*;refine ay 6 _ bg ?_;refine aH (aa (z:=true) ?_);conv=>whnf
  refine ny (by simp;omega) (fun hc=>?_)
  (try rw[hc])
  conv=>whnf
  refine⟨_,Ln,?_⟩;conv=>whnf
  refine⟨_,qI,?_⟩;conv=>whnf
  refine⟨_,Ec acc,?_⟩;conv=>whnf
  exact ih (j+1) _ (by omega) (by omega) ⟨by rw[hU];rfl,rfl,rfl,bC (by omega),rfl,rfl,rfl,rfl,trivial⟩
theorem O8{P2 P3 P4 R I:Nat}{L X:List Int}{v:AV}{n0 most:Int}{h:Heap}{wr:Bool}{es:Nat}(hm:most≤9007199254740991)
  (g2:h.get P2=some (.cells [.ptr R 0] true 0))(gR:h.get R=some (.cells [v,.int .i64 0] true 0))(g4:h.get P4=some (.cells [.int .i64 n0] true 0))(g3:h.get P3=some (.cells [.int .i64 most] true 0))
  (gI:L=[]∨h.get I=some (.cells (eD L) wr es))(hs:Sv I L v X)(hok:okB X)(hX:X.length<2^62)(d2:P2≠P4)(dR:R≠P4)(d3:P3≠P4)(dI:L=[]∨I≠P4)(l3:P3<h.next){Q:AV→Heap→Prop}
  (hQ:∀n' h',Fr h h' [P4]→h'.get P4=some (.cells [.int .i64 n'] true 0)→((rN most X).1=0→n'=(rN most X).2.1)→Q (.dO [.int .i64 (((rN most X).2.2:Nat):Int),.int .i64 (rN most X).1]) h'):
  VD fs ms 50 [.ptr P2 0,.ptr P4 0,.ptr P3 0] h Q:=by
 refine bY (af:=QF) rfl (Nat.le_of_ble_eq_true rfl) ?_;conv=>whnf
 cases ET:X with
 |nil=>
  subst ET;refine aa (z:=true) ?_;conv=>whnf
  refine⟨_,cM g2 rfl,?_⟩;conv=>whnf
  refine⟨_,cM gR rfl,?_⟩;conv=>whnf
  rw[hs.len];conv=>whnf
  exact hQ n0 h (Fr.refl _ _) g4 (fun hh=>absurd hh (by simp[rN]))
 |cons c r=>
  have GO:X≠[]:=by rw[ET];simp
  have JK:L≠[]:=hs.ne GO;replace gI:=gI.resolve_left JK;replace dI:=dI.resolve_left JK;have hlen:X.length=r.length+1:=by rw[ET];rfl
  obtain⟨q0,Ln,Lo⟩:=hs.ix (i:=0) (by omega);have qI:=Lo h wr es gI;have hc0:X[0]=c:=by simp[ET]
  rw[hc0] at qI;have Ok:=hok c (by rw[ET];simp);have zl:rN most X=if c=255 then(if r.length<8 then(3,0,0) else if ki (r.take 8)=0∨ki (r.take 8)>9007199254740737 then(4,0,0) else if 254+ki (r.take 8)>most then(5,0,0) else(0,254+ki (r.take 8),9))
   else if c>most then(5,0,0) else(0,c,1):=by rw[ET];rfl
  refine an true ?_;conv=>whnf
  refine an true ?_;conv=>whnf
  refine⟨_,cM g2 rfl,?_⟩;conv=>whnf
  refine⟨_,cM gR rfl,?_⟩;conv=>whnf
  rw[hs.len];conv=>whnf
  refine k7 (by simpa using GO) (fun hc=>?_)
  (try rw[hc])
  conv=>whnf
  refine an true ?_;conv=>whnf
  have mR:∀e' h' (n':Int) (sz:Nat),bQ e' [(0,.ptr P2 0),(1,.ptr P4 0),(2,.ptr P3 0),(5,.int .i64 ((sz:Nat):Int))]→Fr h h' [P4]→h'.get P4=some (.cells [.int .i64 n'] true 0)→(rN most X=if n'>most then(5,0,0) else(0,n',sz))→
    VC fs ms h.next false (.seq (.seq (.ops [zL 59 1,zL 60 2,zP 61 (.bin .gtr) [.t 59,.t 60]]) (.cond (.t 61) (.seq (.ops [zP 3 .yh [.c (.int .i64 0)],zP 4 .yh [.c (.int .i64 5)]]) .ret) .skip)) (.seq (.ops [zM 62 5,zM 3 62,zP 4 .yh [.c (.int .i64 0)]]) .ret)) e' h' (y7 QF.results Q):=by
   intro e' h' n' sz ha fr I0 hr;refine ay 4 _ ha (aa (z:=true) ?_);conv=>whnf
   refine⟨_,cM I0 rfl,?_⟩;conv=>whnf
   have fk:=fr.keep P3 l3 (by simpa using d3);refine⟨_,cM (fk.trans g3) rfl,?_⟩;conv=>whnf
   refine br (fun hc=>?_) (fun hc=>?_)<;>(try rw[hc])<;>(conv=>whnf)
   ·have hgt:n'>most:=of_decide_eq_true hc;rw[if_pos hgt] at hr;have:=hQ n' h' fr I0 (by rw[hr];simp);rw[hr] at this;exact this
   ·have hgt:¬n'>most:=of_decide_eq_false hc;rw[if_neg hgt] at hr;have:=hQ n' h' fr I0 (by rw[hr];simp);rw[hr] at this;exact this
  refine aJ (an true ?_);conv=>whnf
  refine⟨_,cM g2 rfl,?_⟩;conv=>whnf
  refine⟨_,cM gR rfl,?_⟩;conv=>whnf
  refine⟨_,Ln,?_⟩;conv=>whnf
  refine⟨_,qI,?_⟩;conv=>whnf
  refine cm (bX g4 rfl (Nat.le_refl _) rfl) fun h1 e1=>?_;have Yo:IntKind.i64.wrap c=c:=IntWalk.i64_in _ (by omega);have Ab:Fr h h1 [P4]:=by rw[e1];exact(Fr.refl h [P4]).set (by simp)
  have Qf:h1.get P4=some (.cells [.int .i64 c] true 0):=by rw[e1,aA];show some (bP.cells [AV.int .i64 (IntKind.i64.wrap c)] true 0)=_;rw[Yo]
  have h12:h1.get P2=some (.cells [.ptr R 0] true 0):=by rw[e1];exact(bw d2).trans g2
  have Zj:h1.get R=some (.cells [v,.int .i64 0] true 0):=by rw[e1];exact(bw dR).trans gR
  have h1I:h1.get I=some (.cells (eD L) wr es):=by rw[e1];exact(bw dI).trans gI
  clear e1;conv=>whnf
  refine an true ?_;conv=>whnf
  refine⟨_,cM Qf rfl,?_⟩;conv=>whnf
  refine cj ?_;conv=>whnf
  refine br (fun hc=>?_) (fun hc=>?_)<;>(try rw[hc])<;>(conv=>whnf)
  ·have qx:c=255:=by simpa using hc
   have h9:IntKind.i64.wrap (1+8)=((9:Nat):Int):=rfl;refine aJ (an true ?_);conv=>whnf
   refine an true ?_;conv=>whnf
   refine⟨_,cM h12 rfl,?_⟩;conv=>whnf
   refine⟨_,cM Zj rfl,?_⟩;conv=>whnf
   rw[hs.len];conv=>whnf
   refine aa (z:=true) ?_;conv=>whnf
   refine br (fun hc=>?_) (fun hc=>?_)<;>(try rw[hc])<;>(conv=>whnf)
   ·have OL:r.length<8:=by have:=of_decide_eq_true hc;rw[h9,hlen] at this;omega
    have hr:rN most X=(3,0,0):=by rw[zl,if_pos qx,if_pos OL]
    have:=hQ c h1 Ab Qf (by rw[hr];simp);rw[hr] at this;exact this
   ·have OL:¬r.length<8:=by have:=of_decide_eq_false hc;rw[h9,hlen] at this;omega
    rw[if_pos qx,if_neg OL] at zl;refine an true ?_;conv=>whnf
    refine aJ (an true ?_);conv=>whnf
    refine⟨_,cM h12 rfl,?_⟩;conv=>whnf
    refine⟨_,cM Zj rfl,?_⟩;conv=>whnf
    obtain⟨v8,hp8,Yh⟩:=hs.mid (hi:=9) (by omega) (by omega);have hY:(X.drop 1).take (9-1)=r.take 8:=by rw[ET];rfl
    rw[hY] at Yh;refine⟨_,hp8,?_⟩;conv=>whnf
    rw[Yh.len];conv=>whnf
    refine aR ?_;refine SU Yh h1I (by rw[List.length_take];omega) ?_ (r.take 8).length 0 _ rfl (Nat.zero_le _) ⟨rfl,rfl,rfl,rfl,rfl,rfl,rfl,rfl,trivial⟩;intro e' ha;have hv:=sS (r.take 8) 0 (by omega);change 0≤ki (r.take 8) at hv
    generalize ki (r.take 8)=V at*;show VC fs ms h.next false _ _ _ _;refine ay 6 _ ha ?_;refine an true ?_;conv=>whnf
    refine br (fun hc=>?_) (fun hc=>?_)<;>(try rw[hc])<;>(conv=>whnf)
    ·have hV:V=0:=by simpa using hc
     have hr:rN most X=(4,0,0):=by rw[zl,if_pos (.inl hV)]
     have:=hQ c h1 Ab Qf (by rw[hr];simp);rw[hr] at this;exact this
    ·have hV0:¬V=0:=by simpa using hc
     refine br (fun hc=>?_) (fun hc=>?_)<;>(try rw[hc])<;>(conv=>whnf)
     ·have hV:V>9007199254740737:=of_decide_eq_true hc;have hr:rN most X=(4,0,0):=by rw[zl,if_pos (.inr hV)]
      have:=hQ c h1 Ab Qf (by rw[hr];simp);rw[hr] at this;exact this
     ·have hV:¬V>9007199254740737:=of_decide_eq_false hc;rw[if_neg (by rintro(h|h)<;>omega)] at zl;refine aa (z:=true) ?_;conv=>whnf
      refine cm (bX Qf rfl (Nat.le_refl _) rfl) fun h2 e2=>?_;have Ys:IntKind.i64.wrap (254+IntKind.i64.wrap V)=254+V:=by rw[IntWalk.i64_in V (by omega),IntWalk.i64_in _ (by omega)]
      have N4:Fr h h2 [P4]:=by rw[e2];exact Ab.set (by simp)
      have h24:h2.get P4=some (.cells [.int .i64 (254+V)] true 0):=by rw[e2,aA];show some (bP.cells [AV.int .i64 (IntKind.i64.wrap (254+IntKind.i64.wrap V))] true 0)=_;rw[Ys]
      clear e2;conv=>whnf
      exact mR _ h2 (254+V) 9 ⟨rfl,rfl,rfl,rfl,trivial⟩ N4 h24 zl
  ·have qx:¬c=255:=by simpa using hc
   refine aa (z:=true) ?_;conv=>whnf
   exact mR _ h1 c 1 ⟨rfl,rfl,rfl,rfl,trivial⟩ Ab Qf (by rw[zl,if_neg qx])
structure lQ(h:Heap)(R I:Nat)(L:List Int)(S:RS):Prop where
 gR:∃v,h.get R=some (.cells [v,.int .i64 S.2] true 0)∧Sv I L v S.1
 gI:L=[]∨(∃wr es,h.get I=some (.cells (eD L) wr es))∧I≠R∧I<h.next
 lR:R<h.next
 ok:okB S.1
 sz:S.1.length<2^62
theorem lQ.keep{h h':Heap}{R I:Nat}{L:List Int}{S:RS}{T:List Nat}(hr:lQ h R I L S)(fr:Fr h h' T)(hR:R∉T)(hI:L=[]∨I∉T):lQ h' R I L S:=by
 obtain⟨⟨v,g1,g2⟩,g3,g4,g5,g6⟩:=hr;refine⟨⟨v,(fr.keep R g4 hR).trans g1,g2⟩,?_,Nat.lt_of_lt_of_le g4 fr.next,g5,g6⟩;rcases g3 with h|⟨⟨wr,es,h1⟩,h2,h3⟩
 ·exact .inl h
 ·rcases hI with h|hI
  ·exact .inl h
  ·exact .inr ⟨⟨wr,es,(fr.keep I h3 hI).trans h1⟩,h2,Nat.lt_of_lt_of_le h3 fr.next⟩
theorem lQ.DN{h0 h h':Heap}{R I:Nat}{L:List Int}{S0 S:RS}{T:List Nat}(vI:lQ h0 R I L S0)(hr:lQ h R I L S)(fr:Fr h h' T)(hT:∀b∈T,h0.next≤b):lQ h' R I L S:=by
 refine hr.keep fr (fun hm=>by have:=hT R hm;have:=vI.lR;omega) ?_;rcases vI.gI with h|⟨_,_,h⟩
 ·exact .inl h
 ·exact .inr (fun hm=>by have:=hT I hm;omega)
theorem lQ.to{h h':Heap}{R I:Nat}{L:List Int}{S S':RS}{v':AV}(hr:lQ h R I L S)(fr:Fr h h' [R])(g:h'.get R=some (.cells [v',.int .i64 S'.2] true 0))(hs:Sv I L v' S'.1)(hn:S'.1.length≤S.1.length)(hok:okB S'.1):lQ h' R I L S':=by
 obtain⟨_,g3,g4,g5,g6⟩:=hr;refine⟨⟨v',g,hs⟩,?_,Nat.lt_of_lt_of_le g4 fr.next,hok,by omega⟩;rcases g3 with h|⟨⟨wr,es,h1⟩,h2,h3⟩
 ·exact .inl h
 ·exact .inr ⟨⟨wr,es,(fr.keep I h3 (by simpa using h2)).trans h1⟩,h2,Nat.lt_of_lt_of_le h3 fr.next⟩
theorem Bi(most:Int)(S:RS):(aQ most S).2.1.length≤S.1.length:=by
 unfold aQ;split
 ·exact Nat.le_refl _
 ·split
  ·simp
  ·simp
theorem l9{most:Int}{S:RS}(h:okB S.1):okB (aQ most S).2.1:=by
 unfold aQ;split
 ·exact h
 ·split
  ·intro n hn;simp at hn
  ·exact h.drop _
theorem BG{R:Nat}{h:Heap}{v:AV}{e:Int}(gR:h.get R=some (.cells [v,.int .i64 e] true 0))(he:e≠0){f:Nat}{aO:List AV}{Q:AV→Heap→Prop}(hQ:Q (.bool false) h):
  VD fs ms 49 [.ptr R 0,.func (.func f) [] aO] h Q:=by
 refine bN (af:=QE) true rfl (Nat.le_of_ble_eq_true rfl) ?_;conv=>whnf
 refine⟨_,cM gR rfl,?_⟩;conv=>whnf
 refine ny (by simpa using he) (fun hc=>?_)
 (try rw[hc])
 conv=>whnf
 exact hQ
theorem ID{R:Nat}{h:Heap}{v0:AV}(gR:h.get R=some (.cells [v0,.int .i64 0] true 0)){f:Nat}{aO:List AV}{Q:AV→Heap→Prop}
  (hw:VD fs ms f aO h fun u h1=>∃(size:Nat) (err:Int) (v:AV),u=.dO [.int .i64 ((size:Nat):Int),.int .i64 err]∧h1.get R=some (.cells [v,.int .i64 0] true 0)∧
   (err≠0→∀h2,h2.get R=some (.cells [.az,.int .i64 err] true 0)→Fr h1 h2 [R]→Q (.bool false) h2)∧
   (err=0→∃v',pV (.slice 1 true false false) [v,.int .i64 ((size:Nat):Int)]=some v'∧v'.cells=[v']∧bz [v']=true∧∀h2,h2.get R=some (.cells [v',.int .i64 0] true 0)→Fr h1 h2 [R]→Q (.bool true) h2)):
  VD fs ms 49 [.ptr R 0,.func (.func f) [] aO] h Q:=by
 refine bN (af:=QE) true rfl (Nat.le_of_ble_eq_true rfl) ?_;conv=>whnf
 refine⟨_,cM gR rfl,?_⟩;conv=>whnf
 refine VD.mono hw ?_;rintro u h1 ⟨size,err,v,rfl,g1,oy,vD⟩;conv=>whnf
 refine br (fun hc=>?_) (fun hc=>?_)<;>(try rw[hc])<;>(conv=>whnf)
 ·have he:err≠0:=by simpa using hc
  refine cm (bX g1 rfl (by simp) rfl) fun h2 e2=>?_;have g2:h2.get R=some (.cells [.az,.int .i64 0] true 0):=by rw[e2,aA];rfl
  have f2:Fr h1 h2 [R]:=by rw[e2];exact(Fr.refl h1 [R]).set (by simp)
  clear e2;conv=>whnf
  refine cm (bX g2 rfl (by simp) rfl) fun h3 e3=>?_;have g3:h3.get R=some (.cells [.az,.int .i64 err] true 0):=by rw[e3,aA];rfl
  have f3:Fr h1 h3 [R]:=by rw[e3];exact f2.set (by simp)
  clear e3;conv=>whnf
  exact oy he h3 g3 f3
 ·have he:err=0:=by simpa using hc
  obtain⟨v',hp,JO,FD,hk⟩:=vD he;refine⟨_,cM g1 rfl,?_⟩;conv=>whnf
  refine⟨_,hp,?_⟩;conv=>whnf
  refine cm (bX g1 (by rw[JO];rfl) (by simp) (by rw[JO];exact FD)) fun h2 e2=>?_;have g2:h2.get R=some (.cells [v',.int .i64 0] true 0):=by rw[e2,aA,JO];rfl
  have f2:Fr h1 h2 [R]:=by rw[e2];exact(Fr.refl h1 [R]).set (by simp)
  clear e2;conv=>whnf
  exact hk h2 g2 f2
theorem yo{R I:Nat}{L:List Int}{S:RS}{h:Heap}{most:Int}(hm:most≤9007199254740991)(hr:lQ h R I L S){Q:AV→Heap→Prop}
  (hQ:∀h',lQ h' R I L (aQ most S).2→Fr h h' [R]→Q (.int .i64 (aQ most S).1) h'):VD fs ms 32 [.ptr R 0,.int .i64 most] h Q:=by
 have vI:=hr;obtain⟨⟨v,gR,hs⟩,gI,lR,ok,sz⟩:=hr;refine bY (af:=PU) rfl (Nat.le_of_ble_eq_true rfl) ?_;conv=>whnf
 refine an true ?_;conv=>whnf
 obtain⟨H,hH⟩:∃H,H=(((h.new (.cells [.ptr R 0] true 0)).new (.cells [.int .i64 most] true 0)).new (.cells [.int .i64 0] true 0)):=⟨_,rfl⟩;have Ld:Fr h H []:=by rw[hH];exact(Fr.refl h []).new.new.new
 have hn0:H.next=h.next+3:=by rw[hH];rfl
 have g2:H.get h.next=some (.cells [.ptr R 0] true 0):=by
  rw[hH];exact(aF (show h.next<h.next+2 by omega)).trans ((aF (show h.next<h.next+1 by omega)).trans au)
 have g3:H.get (h.next+1)=some (.cells [.int .i64 most] true 0):=by
  rw[hH];exact(aF (show h.next+1<h.next+2 by omega)).trans (au (h:=h.new _))
 have g4:H.get (h.next+2)=some (.cells [.int .i64 0] true 0):=by
  rw[hH];exact au (h:=(h.new _).new _)
 have Re:H.get R=some (.cells [v,.int .i64 S.2] true 0):=(Ld.keep R lR (by simp)).trans gR;show VC fs ms h.next false _ (Tr.node _ _ _) (((h.new (.cells [.ptr R 0] true 0)).new (.cells [.int .i64 most] true 0)).new (.cells [.int .i64 0] true 0)) _;rw[←hH];clear hH;have Lb:∀e' h',bQ e' [(4,.ptr (h.next+2) 0),(5,.bool false)]→Fr h h' [R]→(∃n',h'.get (h.next+2)=some (.cells [.int .i64 n'] true 0))→lQ h' R I L (aQ most S).2→(aQ most S).1=0→
   VC fs ms h.next false (.seq (.seq (.ops [zM 9 5,zP 10 .not [.t 9]]) (.cond (.t 10) (.seq (.ops [zS 1 [.t 4,.c (.int .i64 0)]]) .ret) .skip)) (.seq (.ops [zL 11 4,zS 1 [.t 4,.t 11]]) .ret)) e' h' (y7 PU.results Q):=by
  intro e' h' ha fr ⟨n',g⟩ hp hz;refine ay 4 _ ha (aa (z:=true) ?_);conv=>whnf
  refine cm (bX g rfl (Nat.le_refl _) rfl) fun h2 e2=>?_;have gg:h2.get (h.next+2)=some (.cells [.int .i64 0] true 0):=by rw[e2,aA];rfl
  have ff:Fr h' h2 [h.next+2]:=by rw[e2];exact(Fr.refl h' _).set (by simp)
  have f3:Fr h h2 [R]:=by rw[e2];exact fr.gM (by omega)
  clear e2;conv=>whnf
  refine j9 (v:=[.int .i64 0]) (sN rfl gg rfl) ?_;conv=>whnf
  have:=hQ h2 (vI.DN hp ff (by simp)) f3;rw[hz] at this;exact this
 have RD:∀e' h',bQ e' [(4,.ptr (h.next+2) 0),(5,.bool true)]→Fr h h' [R]→h'.get (h.next+2)=some (.cells [.int .i64 (aQ most S).1] true 0)→lQ h' R I L (aQ most S).2→
   VC fs ms h.next false (.seq (.seq (.ops [zM 9 5,zP 10 .not [.t 9]]) (.cond (.t 10) (.seq (.ops [zS 1 [.t 4,.c (.int .i64 0)]]) .ret) .skip)) (.seq (.ops [zL 11 4,zS 1 [.t 4,.t 11]]) .ret)) e' h' (y7 PU.results Q):=by
  intro e' h' ha fr g hp;refine ay 4 _ ha (aa (z:=true) ?_);conv=>whnf
  refine⟨_,cM g rfl,?_⟩;conv=>whnf
  refine cm (bX g rfl (Nat.le_refl _) rfl) fun h2 e2=>?_;have gg:h2.get (h.next+2)=some (.cells [.int .i64 (aQ most S).1] true 0):=by rw[e2,aA];rfl
  have ff:Fr h' h2 [h.next+2]:=by rw[e2];exact(Fr.refl h' _).set (by simp)
  have f3:Fr h h2 [R]:=by rw[e2];exact fr.gM (by omega)
  clear e2;conv=>whnf
  refine j9 (v:=[.int .i64 (aQ most S).1]) (sN rfl gg rfl) ?_;conv=>whnf
  exact hQ h2 (vI.DN hp ff (by simp)) f3
 have hfR:Fr h H [R]:=⟨Ld.next,fun c hc _=>Ld.keep c hc (by simp)⟩;have Uf:lQ H R I L S:=vI.keep Ld (by simp) (.inr (by simp));refine an true ?_;conv=>whnf
 refine⟨_,cM g2 rfl,?_⟩;conv=>whnf
 by_cases he:S.2=0
 ·have hgI:L=[]∨∃wr es,H.get I=some (.cells (eD L) wr es):=by
   rcases Uf.gI with h|⟨h,_⟩
   ·exact .inl h
   ·exact .inr h
  rw[he] at Re;have X6:∀(wr:Bool) (es:Nat),(L=[]∨H.get I=some (.cells (eD L) wr es))→VD fs ms 49 [.ptr R 0,.func (.func 50) [] [.ptr h.next 0,.ptr (h.next+2) 0,.ptr (h.next+1) 0]] H (fun u h'=>(u=.bool true∧Fr h h' [R]∧h'.get (h.next+2)=some (.cells [.int .i64 (aQ most S).1] true 0)∧lQ h' R I L (aQ most S).2)∨(u=.bool false∧Fr h h' [R]∧(∃n',h'.get (h.next+2)=some (.cells [.int .i64 n'] true 0))∧lQ h' R I L (aQ most S).2∧(aQ most S).1=0)):=by
   intro wr es XL;refine ID Re ?_;refine O8 (wr:=wr) (es:=es) hm g2 Re g4 g3 XL hs ok sz (by omega) (by omega) (by omega) ?_ (by omega) ?_
   ·rcases gI with h|⟨_,_,h⟩
    ·exact .inl h
    ·exact .inr (by omega)
   intro n' h1 pZ TW hn;have Ug:=v7 (most:=most) ok;have gR2:h1.get R=some (.cells [v,.int .i64 0] true 0):=(pZ.keep R (by omega) (by simp;omega)).trans Re;have TT:Fr h h1 [R]:=⟨by have:=pZ.next;omega,fun c hc hn=>(pZ.keep c (by omega) (by simp;omega)).trans (Ld.keep c hc (by simp))⟩;have qy:aQ most S=if(rN most S.1).1≠0 then(0,[],(rN most S.1).1) else((rN most S.1).2.1,S.1.drop (rN most S.1).2.2,0):=by
    unfold aQ;rw[if_neg (by rw[he];simp)]
   refine⟨(rN most S.1).2.2,(rN most S.1).1,v,rfl,gR2,?_,?_⟩
   ·intro hne h2 gg ff;rw[if_pos hne] at qy;refine .inr ⟨rfl,TT.trans ff,⟨n',(ff.keep _ (by have:=pZ.next;omega) (by simp;omega)).trans TW⟩,?_,by rw[qy]⟩;refine vI.to (TT.trans ff) (v':=.az) (by rw[qy];exact gg) (by rw[qy];exact .az) (by rw[qy];simp) (by rw[qy];intro n hn;simp at hn)
   ·intro hz;rw[if_neg (by simp[hz])] at qy;obtain⟨v',hp,FE⟩:=hs.from (lo:=(rN most S.1).2.2) Ug.2.1;refine⟨v',hp,FE.cells.1,by have:=FE.cells.2.2;rw[FE.cells.1] at this;exact this,fun h2 gg ff=>?_⟩;refine .inl ⟨rfl,TT.trans ff,?_,?_⟩
    ·rw[qy,←hn hz];exact(ff.keep _ (by have:=pZ.next;omega) (by simp;omega)).trans TW
    ·exact vI.to (TT.trans ff) (v':=v') (by rw[qy];exact gg) (by rw[qy];exact FE) (Bi most S) (l9 ok)
  have Yp:∃(wr:Bool) (es:Nat),L=[]∨H.get I=some (.cells (eD L) wr es):=by
   rcases hgI with h|⟨wr,es,h⟩
   ·exact⟨true,0,.inl h⟩
   ·exact⟨wr,es,.inr h⟩
  obtain⟨wr,es,XL⟩:=Yp;refine VD.mono (X6 wr es XL) ?_;rintro u h' (⟨rfl,fr,g,hp⟩|⟨rfl,fr,g,hp,hz⟩)
  ·conv=>whnf
   exact RD _ h' ⟨rfl,rfl,trivial⟩ fr g hp
  ·conv=>whnf
   exact Lb _ h' ⟨rfl,rfl,trivial⟩ fr g hp hz
 ·have qy:aQ most S=(0,S):=by
   unfold aQ;rw[if_pos he]
  refine BG Re he ?_;conv=>whnf
  exact Lb _ H ⟨rfl,rfl,trivial⟩ hfR ⟨0,g4⟩ (by rw[qy];exact Uf) (by rw[qy])
theorem AF{R I:Nat}{L:List Int}{S:RS}{h:Heap}(hr:lQ h R I L S){Q:AV→Heap→Prop}(hQ:Q (.int .i64 S.2) h):VD fs ms 33 [.ptr R 0] h Q:=by
 obtain⟨⟨v,gR,hs⟩,_⟩:=hr;refine bN (af:=Ti) true rfl (Nat.le_of_ble_eq_true rfl) ?_;conv=>whnf
 refine⟨_,cM gR rfl,?_⟩;conv=>whnf
 exact hQ
theorem CL{R I:Nat}{L:List Int}{S:RS}{h:Heap}(hr:lQ h R I L S){Q:AV→Heap→Prop}(hQ:Q (.int .i64 ((S.1.length:Nat):Int)) h):VD fs ms 34 [.ptr R 0] h Q:=by
 obtain⟨⟨v,gR,hs⟩,_⟩:=hr;refine bN (af:=Tj) true rfl (Nat.le_of_ble_eq_true rfl) ?_;conv=>whnf
 refine⟨_,cM gR rfl,?_⟩;conv=>whnf
 rw[hs.len];conv=>whnf
 exact hQ
structure oH(h:Heap)(I:Nat)(L:List Int)(v:AV)(X:List Int):Prop where
 hs:Sv I L v X
 gI:L=[]∨(∃wr es,h.get I=some (.cells (eD L) wr es))∧I<h.next
 ok:okB X
 sz:X.length<2^62
theorem oH.keep{h h':Heap}{I:Nat}{L:List Int}{v:AV}{X:List Int}{T:List Nat}(hr:oH h I L v X)(fr:Fr h h' T)(hI:L=[]∨I∉T):oH h' I L v X:=by
 obtain⟨g1,g2,g3,g4⟩:=hr;refine⟨g1,?_,g3,g4⟩;rcases g2 with h|⟨⟨wr,es,h1⟩,h2⟩
 ·exact .inl h
 ·rcases hI with h|hI
  ·exact .inl h
  ·exact .inr ⟨⟨wr,es,(fr.keep I h2 hI).trans h1⟩,Nat.lt_of_lt_of_le h2 fr.next⟩
theorem oH.from{h:Heap}{I:Nat}{L:List Int}{v:AV}{X:List Int}(hr:oH h I L v X){lo:Nat}(hl:lo≤X.length):∃v',pV (.slice 1 true false false) [v,.int .i64 ((lo:Nat):Int)]=some v'∧oH h I L v' (X.drop lo):=by
 obtain⟨v',h1,h2⟩:=hr.hs.from hl;exact⟨v',h1,h2,hr.gI,hr.ok.drop _,by have:=hr.sz;rw[List.length_drop];omega⟩
theorem oH.to{h:Heap}{I:Nat}{L:List Int}{v:AV}{X:List Int}(hr:oH h I L v X){hi:Nat}(hl:hi≤X.length):∃v',pV (.slice 1 false true false) [v,.int .i64 ((hi:Nat):Int)]=some v'∧oH h I L v' (X.take hi):=by
 obtain⟨v',h1,h2⟩:=hr.hs.to hl;exact⟨v',h1,h2,hr.gI,hr.ok.take _,by have:=hr.sz;rw[List.length_take];omega⟩
theorem D6{I:Nat}{L X:List Int}{v:AV}{h:Heap}(hs:oH h I L v X){Q:AV→Heap→Prop}(hQ:∀h',lQ h' h.next I L (X,0)→Fr h h' []→h'.next=h.next+1→Q (.ptr h.next 0) h'):VD fs ms 31 [v] h Q:=by
 obtain⟨g1,g2,g3,g4⟩:=hs;refine bN (af:=Th) true rfl (Nat.le_of_ble_eq_true rfl) ?_;have hb:pV (.build [.az,.int .i64 0] [(0,1)]) [v]=some (.agg [v,.int .i64 0]):=by rcases g1 with⟨rfl,_⟩|⟨o,k,rfl,_⟩|⟨o,cap,op,rfl,_⟩<;>rfl
 conv=>whnf
 refine j9 hb ?_;conv=>whnf
 refine hQ _ ?_ ((Fr.refl h []).new) rfl;refine⟨⟨v,au,g1⟩,?_,Nat.lt_succ_self _,g3,g4⟩;rcases g2 with h|⟨⟨wr,es,h1⟩,h2⟩
 ·exact .inl h
 ·exact .inr ⟨⟨wr,es,(aF h2).trans h1⟩,by omega,Nat.lt_succ_of_lt h2⟩
abbrev Gq:Nat:=26
theorem CP{R I:Nat}{L:List Int}{S:RS}{h:Heap}(hr:lQ h R I L S){Q R':AV→Heap→Prop}(hQ:S.2=0→Q (.dO []) h)(hR:S.2≠0→R' (.iface Gq (.int .i64 S.2)) h):VX fs ms 52 [.ptr R 0] h Q R':=by
 refine BM (af:=Tw) rfl (Nat.le_of_ble_eq_true rfl) ?_;conv=>whnf
 refine an true ?_;conv=>whnf
 refine AF hr ?_;conv=>whnf
 refine an true ?_;conv=>whnf
 refine cj ?_;conv=>whnf
 refine br (fun hc=>?_) (fun hc=>?_)<;>(try rw[hc])<;>(conv=>whnf)
 ·have he:S.2≠0:=by simpa using hc
  refine BL (z:=true) rfl ?_;conv=>whnf
  exact⟨_,_,rfl,rfl,hR he⟩
 ·have he:S.2=0:=by simpa using hc
  refine aa (z:=true) ?_;conv=>whnf
  exact⟨[],rfl,hQ he⟩
def r8(S:RS):Int:=if S.2=0 then(if S.1=[] then 0 else 4) else S.2
theorem QY{R I:Nat}{L:List Int}{S:RS}{h:Heap}(hr:lQ h R I L S){Q:AV→Heap→Prop}(hQ:Q (.int .i64 (r8 S)) h):VD fs ms 54 [.ptr R 0] h Q:=by
 refine bN (af:=Tx) true rfl (Nat.le_of_ble_eq_true rfl) ?_;conv=>whnf
 refine AF hr ?_;conv=>whnf
 refine br (fun hc=>?_) (fun hc=>?_)<;>(try rw[hc])<;>(conv=>whnf)
 ·have he:S.2=0:=by simpa using hc
  refine CL hr ?_;conv=>whnf
  refine br (fun hc=>?_) (fun hc=>?_)<;>(try rw[hc])<;>(conv=>whnf)
  ·have hl:S.1≠[]:=by intro h0;rw[h0] at hc;simp at hc
   rw[r8,if_pos he,if_neg hl] at hQ;exact hQ
  ·have hl:S.1=[]:=by
    have:=of_decide_eq_false hc;exact List.eq_nil_of_length_eq_zero (by omega)
   refine AF hr ?_;conv=>whnf
   rw[r8,if_pos he,if_pos hl] at hQ;rw[he];exact hQ
 ·have he:S.2≠0:=by simpa using hc
  refine AF hr ?_;conv=>whnf
  rw[r8,if_neg he] at hQ;exact hQ
def gQ(most:Int)(S:RS):List UInt8×RS:=if(aQ most S).2.2≠0 then([],(aQ most S).2) else if((aQ most S).2.1.length:Int)<(aQ most S).1 then([],[],3) else
 (qU ((aQ most S).2.1.take (aQ most S).1.toNat),(aQ most S).2.1.drop (aQ most S).1.toNat,0)
theorem qa{most:Int}{S:RS}(h:okB S.1):0≤(aQ most S).1:=by
 have:=(v7 (most:=most) h).1;unfold aQ;split
 ·simp
 ·split
  ·simp
  ·exact this
theorem Qx(most:Int)(S:RS):(gQ most S).2.1.length≤S.1.length:=by
 have:=Bi most S;unfold gQ;split
 ·exact this
 ·split
  ·simp
  ·simp only[List.length_drop];omega
theorem SP{most:Int}{S:RS}(h:okB S.1):okB (gQ most S).2.1:=by
 have:=l9 (most:=most) h;unfold gQ;split
 ·exact this
 ·split
  ·intro n hn;simp at hn
  ·exact this.drop _
theorem KG{P2 P4 P5 R I:Nat}{L X:List Int}{v:AV}{k:Nat}{s0:List UInt8}{h:Heap}
  (g2:h.get P2=some (.cells [.ptr R 0] true 0))(gR:h.get R=some (.cells [v,.int .i64 0] true 0))(g5:h.get P5=some (.cells [.int .i64 ((k:Nat):Int)] true 0))(g4:h.get P4=some (.cells [.str s0] true 0))
  (hs:Sv I L v X)(gI:L=[]∨∃wr es,h.get I=some (.cells (eD L) wr es))(hX:X.length<2^62)(d5:P5≠P4)(l5:P5<h.next){Q:AV→Heap→Prop}
  (oy:X.length<k→Q (.dO [.int .i64 0,.int .i64 3]) h)(vD:k≤X.length→∀h',h'.get P4=some (.cells [.str (qU (X.take k))] true 0)→Fr h h' [P4]→Q (.dO [.int .i64 ((k:Nat):Int),.int .i64 0]) h'):
  VD fs ms 73 [.ptr P2 0,.ptr P5 0,.ptr P4 0] h Q:=by
 refine bN (af:=TE) true rfl (Nat.le_of_ble_eq_true rfl) ?_;conv=>whnf
 refine⟨_,cM g2 rfl,?_⟩;conv=>whnf
 refine⟨_,cM gR rfl,?_⟩;conv=>whnf
 rw[hs.len];conv=>whnf
 refine⟨_,cM g5 rfl,?_⟩;conv=>whnf
 refine br (fun hc=>?_) (fun hc=>?_)<;>(try rw[hc])<;>(conv=>whnf)
 ·have hlt:X.length<k:=by have:=of_decide_eq_true hc;omega
  exact oy hlt
 ·have hle:k≤X.length:=by have:=of_decide_eq_false hc;omega
  refine⟨_,cM g2 rfl,?_⟩;conv=>whnf
  refine⟨_,cM gR rfl,?_⟩;conv=>whnf
  refine⟨_,cM g5 rfl,?_⟩;conv=>whnf
  obtain⟨v',hp,hs'⟩:=hs.to hle;refine⟨_,hp,?_⟩;conv=>whnf
  have CG:rV .toStr [v'] h=some (.str (qU (X.take k))):=by
   rcases gI with hL|⟨wr,es,hg⟩
   ·rcases hs' with⟨rfl,hx⟩|⟨o,j,rfl,hx⟩|⟨o,cap,op,rfl,q1,q2,q3,q4⟩
    ·rw[hx];rfl
    ·rw[hx];rfl
    ·exact absurd hL q4
   ·exact(hs'.load hg).2
  refine⟨_,CG,?_⟩;conv=>whnf
  refine cm (bX g4 rfl (Nat.le_refl _) rfl) fun h1 e1=>?_;have TW:h1.get P4=some (.cells [.str (qU (X.take k))] true 0):=by rw[e1,aA];rfl
  have f1:Fr h h1 [P4]:=by rw[e1];exact(Fr.refl h [P4]).set (by simp)
  clear e1;conv=>whnf
  refine⟨_,cM ((f1.keep P5 l5 (by simpa using d5)).trans g5) rfl,?_⟩;conv=>whnf
  exact vD hle h1 TW f1
theorem Py{R I:Nat}{L:List Int}{S:RS}{h:Heap}{most:Int}(hm:most≤9007199254740991)(hr:lQ h R I L S){Q:AV→Heap→Prop}
  (hQ:∀h',lQ h' R I L (gQ most S).2→Fr h h' [R]→Q (.str (gQ most S).1) h'):VD fs ms 53 [.ptr R 0,.int .i64 most] h Q:=by
 refine bY (af:=QG) rfl (Nat.le_of_ble_eq_true rfl) ?_;conv=>whnf
 refine an true ?_;conv=>whnf
 obtain⟨H,hH⟩:∃H,H=((h.new (.cells [.ptr R 0] true 0)).new (.cells [.str []] true 0)):=⟨_,rfl⟩;have Ld:Fr h H []:=by rw[hH];exact(Fr.refl h []).new.new
 have hn0:H.next=h.next+2:=by rw[hH];rfl
 have g2:H.get h.next=some (.cells [.ptr R 0] true 0):=by
  rw[hH];exact(aF (show h.next<h.next+1 by omega)).trans au
 have g4:H.get (h.next+1)=some (.cells [.str []] true 0):=by
  rw[hH];exact au (h:=h.new _)
 show VC fs ms h.next false _ (Tr.node _ _ _) ((h.new (.cells [.ptr R 0] true 0)).new (.cells [.str []] true 0)) _;rw[←hH];clear hH;have Uf:lQ H R I L S:=hr.keep Ld (by simp) (.inr (by simp));have lR:=hr.lR;have hend:∀e' h' (s:List UInt8),bQ e' [(4,.ptr (h.next+1) 0)]→Fr h h' [R]→h'.get (h.next+1)=some (.cells [.str s] true 0)→s=(gQ most S).1→lQ h' R I L (gQ most S).2→
   VC fs ms h.next false (.seq (.ops [zL 12 4,zS 1 [.t 4,.t 12]]) .ret) e' h' (y7 QG.results Q):=by
  intro e' h' s ha fr g hs hp;refine ay 4 _ ha (aa (z:=true) ?_);conv=>whnf
  refine⟨_,cM g rfl,?_⟩;conv=>whnf
  refine cm (bX g rfl (Nat.le_refl _) rfl) fun h2 e2=>?_;have gg:h2.get (h.next+1)=some (.cells [.str s] true 0):=by rw[e2,aA];rfl
  have ff:Fr h' h2 [h.next+1]:=by rw[e2];exact(Fr.refl h' _).set (by simp)
  have f3:Fr h h2 [R]:=by rw[e2];exact fr.gM (by omega)
  clear e2;conv=>whnf
  refine j9 (v:=[.str s]) (sN rfl gg rfl) ?_;conv=>whnf
  rw[hs];exact hQ h2 (hr.DN hp ff (by simp)) f3
 refine an true ?_;conv=>whnf
 refine⟨_,cM g2 rfl,?_⟩;conv=>whnf
 refine yo hm Uf fun h2 kN iu=>?_;have hn2:=iu.next;have G6:=qa (most:=most) hr.ok;obtain⟨k,hk⟩:=Int.eq_ofNat_of_zero_le G6;have Le:Fr h h2 [R]:=⟨by omega,fun c hc hn=>(iu.keep c (by omega) hn).trans (Ld.keep c hc (by simp))⟩;have g22:h2.get h.next=some (.cells [.ptr R 0] true 0):=(iu.keep _ (by omega) (by simp;omega)).trans g2;have g42:h2.get (h.next+1)=some (.cells [.str []] true 0):=(iu.keep _ (by omega) (by simp;omega)).trans g4;conv=>whnf
 refine cm (bX au rfl (Nat.le_refl _) rfl) fun h3 e3=>?_;have f3:Fr h2 h3 []:=by rw[e3];exact((Fr.refl h2 []).new).gM (Nat.le_refl _)
 have Ze:h3.get h2.next=some (.cells [.int .i64 (aQ most S).1] true 0):=by rw[e3,aA];rfl
 have n3:h3.next=h2.next+1:=by rw[e3];rfl
 clear e3;have Y9:=(f3.keep h.next (by omega) (by simp)).trans g22;have Xa:=(f3.keep (h.next+1) (by omega) (by simp)).trans g42;have x8:lQ h3 R I L (aQ most S).2:=kN.keep f3 (by simp) (.inr (by simp));have XI:Fr h h3 [R]:=Le.trans ⟨f3.next,fun c hc _=>f3.keep c hc (by simp)⟩;conv=>whnf
 refine an true ?_;conv=>whnf
 refine⟨_,cM Y9 rfl,?_⟩;conv=>whnf
 have OK:=x8;obtain⟨⟨v,gR,hs⟩,gI,lR3,ok3,sz3⟩:=x8;by_cases he:(aQ most S).2.2=0
 ·rw[he] at gR;refine ID gR ?_;rw[hk] at Ze;refine KG (X:=(aQ most S).2.1) (k:=k) Y9 gR Ze Xa hs (gI.imp id (fun h=>h.1)) sz3 (by omega) (by omega) ?_ ?_
  ·intro hlt;have ht:gQ most S=([],[],3):=by
    unfold gQ;rw[if_neg (by simp[he]),if_pos (by rw[hk];exact Int.ofNat_lt.2 hlt)]
   refine⟨0,3,v,rfl,gR,?_,fun h=>absurd h (by decide)⟩;intro _ h4 gg ff;conv=>whnf
   have uz:Fr h h4 [R]:=XI.trans ff;exact hend _ h4 [] ⟨rfl,trivial⟩ uz ((ff.keep _ (by omega) (by simp;omega)).trans Xa) (by rw[ht]) (OK.to ff (v':=.az) (by rw[ht];exact gg) (by rw[ht];exact .az) (by rw[ht];simp) (by rw[ht];intro n hn;simp at hn))
  ·intro hle h4 g44 f4;have ht:gQ most S=(qU ((aQ most S).2.1.take k),(aQ most S).2.1.drop k,0):=by
    unfold gQ;rw[if_neg (by simp[he]),if_neg (by rw[hk];exact fun h=>absurd (Int.ofNat_lt.1 h) (by omega)),hk];rfl
   have gR4:h4.get R=some (.cells [v,.int .i64 0] true 0):=(f4.keep R lR3 (by simp;omega)).trans gR;refine⟨k,0,v,rfl,gR4,fun h=>absurd rfl h,fun _=>?_⟩;obtain⟨v',hp,FE⟩:=hs.from hle;refine⟨v',hp,FE.cells.1,by have:=FE.cells.2.2;rw[FE.cells.1] at this;exact this,fun h5 gg ff=>?_⟩;conv=>whnf
   have uz:Fr h h4 [R]:=⟨by have:=f4.next;omega,fun c hc hn=>(f4.keep c (by omega) (by simp;omega)).trans (XI.keep c hc hn)⟩;have n4:=f4.next;have ZY:Fr h3 h5 [R,h.next+1]:=⟨Nat.le_trans f4.next ff.next,fun c hc hn=>(ff.keep c (by omega) (by simp at hn⊢;exact hn.1)).trans (f4.keep c hc (by simp at hn⊢;exact hn.2))⟩;refine hend _ h5 _ ⟨rfl,trivial⟩ (uz.trans ff) ((ff.keep _ (by omega) (by simp;omega)).trans g44) (by rw[ht]) ?_;have A4:lQ h4 R I L (aQ most S).2:=hr.DN OK f4 (by simp);exact A4.to ff (v':=v') (by rw[ht];exact gg) (by rw[ht];exact FE) (by rw[ht];simp) (by rw[ht];exact ok3.drop _)
 ·have ht:gQ most S=([],(aQ most S).2):=by
   unfold gQ;rw[if_pos he]
  refine BG gR he ?_;conv=>whnf
  exact hend _ h3 [] ⟨rfl,trivial⟩ XI Xa (by rw[ht]) (by rw[ht];exact OK)
end Ir
end Go.Proofs.YtmnolnoeibhjgaaGreat
namespace Go.Proofs.YtmnolnoeibhjgaaGreat
open Go Ads
namespace Ads
section
variable {fs:Nat→Option aj} {ms:Nat→String→Option Nat} {B:Nat} {rd:Bool} {z:Bool}
def KO(fs:Nat→Option aj)(ms:Nat→String→Option Nat)(rd:Bool)(vals:List AV)(h:Heap)(Q R:AV→Heap→Prop):Prop:=
 (∃v h',(∀B,VS fs ms B (.op rd .call vals h) (.val v h'))∧Q v h')∨∃v h',(∀B,VS fs ms B (.op rd .call vals h) (.jh v h'))∧R v h'
theorem KK{l1 l2:List bp}{d:Option Nat}{oI:List bx}{e:Env}{h:Heap}{Q:AX→Env→Heap→Prop}
  (hw:FJ fs ms z l1 e h fun e1 h1=>qX e1 oI fun vals=>KO fs ms rd vals h1 (fun v h2=>gE e1 d v fun e2=>VO fs ms B rd l2 e2 h2 fun e3 h3=>Q .normal e3 h3) fun v h2=>Q (.panic v) e1 h2):VC fs ms B rd (.ops (l1++⟨d,none,.call,oI⟩::l2)) e h Q:=by
 obtain⟨tr,e1,h1,a,hk⟩:=dY (rd:=rd) (B:=B) hw;obtain⟨hj,hk⟩:=fq hk;rcases hk with⟨v,h2,b,hq⟩|⟨v,h2,b,hr⟩
 ·rw[fy] at hq;obtain⟨wV,e3,h3,c,hq⟩:=hq;obtain⟨KH,hc⟩:=rH a (.on (i:=⟨d,none,.call,oI⟩) rfl hj (b B) c);exact⟨_,_,_,.ops hc,hq⟩
 ·exact⟨_,_,_,.zD (i:=⟨d,none,.call,oI⟩) a rfl hj (b B),hr⟩
theorem IK{L:Nat}{args:List AV}{h:Heap}{cw:Option AX}{e:Env}{ps:List Nat}{a A:AC}{id:Nat}{l1:List bp}{d:Option Nat}{oI:List bx}{Q R:AV→Heap→Prop}
  (hg:h.get L=some (.loop 0 cw e ps a (.block id (.seq A (.ops (l1++[⟨d,none,.call,oI⟩]))))))(hlen:args.length=ps.length)(hna:aU a=true)(B0:aU A=true)
  (hw:VC fs ms h.next true a (eW ps args e) h fun x e2 h2=>x=.normal∧∃bW,h2.get L=some (.loop 0 bW e ps a (.block id (.seq A (.ops (l1++[⟨d,none,.call,oI⟩])))))∧
   VC fs ms h.next true A e2 (h2.set L (.loop 1 bW e ps a (.block id (.seq A (.ops (l1++[⟨d,none,.call,oI⟩])))))) fun x e3 h3=>x=.normal∧
    VO fs ms h.next true l1 e3 h3 fun e4 h4=>qX e4 oI fun vals=>xL fs ms vals h4
     (fun v h5=>(∃Ee mc,h5.get L=some (.loop Ee mc e ps a (.block id (.seq A (.ops (l1++[⟨d,none,.call,oI⟩]))))))∧Q (.bool true) (h5.set L (.loop 0 none e ps a (.block id (.seq A (.ops (l1++[⟨d,none,.call,oI⟩]))))))) R):
  KO fs ms rd (.yield L::args) h Q R:=by
 obtain⟨x,e2,h2,a1,rfl,bW,g2,x3,e3,h3,a3,rfl,tr,e4,h4,a4,hk⟩:=hw;obtain⟨hj,hk⟩:=fq hk;rcases nA (rd:=true) hk with⟨v,h5,b,⟨Ee,mc,g5⟩,hq⟩|⟨v,h5,b,hr⟩
 ·obtain⟨KH,hc⟩:=rH a4 (.on (i:=⟨d,none,.call,oI⟩) rfl hj (b h.next) .nil);have hb:VS fs ms h.next (.code true (.block id (.seq A (.ops (l1++[⟨d,none,.call,oI⟩])))) e2 (h2.set L (.loop 1 bW e ps a (.block id (.seq A (.ops (l1++[⟨d,none,.call,oI⟩]))))))) (.code .normal (e4.put d v) h5):=
   .eR (.wC a3 (.ops hc)) (by simp)
  refine .inl ⟨.bool true,_,fun B=>.jH (.yield (x:=.normal) hg hlen a1 g2 hb (by simp) g5),hq⟩
 ·exact .inr ⟨v,h5,fun B=>.kG (.od (l1:=l1) (i:=⟨d,none,.call,oI⟩) (l2:=[]) hg hlen a1 hna g2 B0 a3 a4 rfl hj (b h.next)),hr⟩
theorem Fz{g:bx}{ps:List Nat}{a b:AC}{e:Env}{h:Heap}{f:Nat}{first aO:List AV}{Q:AX→Env→Heap→Prop}(L:Nat)(hL:h.next=L)(hao:dj e [g]=true)(vC:Env.ev e g=.func (.func f) first aO)
  (hw:VX fs ms f (first++(.yield L::aO)) (h.new (.loop 0 none e ps a b)) (fun _ h2=>∃x st,h2.get L=some (.loop st (cU x) e ps a b)∧st≠1∧(∀v,x≠.panic v)∧Q x e (h2.set L (.loop 3 (cU x) e ps a b))) fun v h2=>Q (.panic v) e h2):
  VC fs ms B false (.rangeFunc g ps a b) e h Q:=by
 subst hL;rcases hw with⟨v,h2,hb,x,st,h3,h4,h5,h6⟩|⟨v,h2,hb,h6⟩
 ·exact⟨x,e,_,.rangeFunc hao vC (hb B) h3 h4 h5,h6⟩
 ·exact⟨.panic v,e,_,.iP hao vC (hb B),h6⟩
end
end Ads
namespace Ir
abbrev MX:Int:=9007199254740991
def kg:Nat→RS→List Int×RS
 |0,S=>([],S)
 |j+1,S=>((kg j S).1++[(aQ MX (kg j S).2).1],(aQ MX (kg j S).2).2)
theorem Ib:∀(j:Nat) (S:RS),(kg j S).1.length=j
 |0,S=>rfl
 |j+1,S=>by simp[kg,Ib j S]
def gA(l:List Int):List AV:=[.int .i64 (l.getD 0 0),.int .i64 (l.getD 1 0),.int .i64 (l.getD 2 0),.int .i64 (l.getD 3 0),.int .i64 (l.getD 4 0),.az,.int .i64 0]
theorem Ch{l:List Int}{j:Nat}(hl:l.length=j)(hj:j<5)(n:Int):Heap.splice (gA l) j [.int .i64 n]=gA (l++[n]):=by
 match l,j,hl,hj with
 |[],0,_,_=>rfl
 |[a],1,_,_=>rfl
 |[a,b],2,_,_=>rfl
 |[a,b,c],3,_,_=>rfl
 |[a,b,c,d],4,_,_=>rfl
 |[],j+1,h,_=>simp at h
 |[a],0,h,_=>simp at h
 |[a],j+2,h,_=>simp at h
 |[a,b],0,h,_=>simp at h
 |[a,b],1,h,_=>simp at h
 |[a,b],j+3,h,_=>simp at h
 |[a,b,c],0,h,_=>simp at h
 |[a,b,c],1,h,_=>simp at h
 |[a,b,c],2,h,_=>simp at h
 |[a,b,c],j+4,h,_=>simp at h
 |[a,b,c,d],0,h,_=>simp at h
 |[a,b,c,d],1,h,_=>simp at h
 |[a,b,c,d],2,h,_=>simp at h
 |[a,b,c,d],3,h,_=>simp at h
 |[a,b,c,d],j+5,h,hj=>omega
 |a::b::c::d::e::l,j,h,hj=>simp at h;omega
def FH(T:Nat):Env:=ek 4 [(2,.ptr T 0),(3,.ptr (T+2) 0),(12,.func (.func 72) [] [.ptr (T+3) 0])]
structure QK(h0:Heap)(I:Nat)(L:List Int)(l:List Int)(S:RS)(h:Heap):Prop where
 fr:Fr h0 h []
 gT:h.get h0.next=some (.cells (gA l) true 0)
 rd:lQ h (h0.next+1) I L S
 g3:h.get (h0.next+2)=some (.cells [.ptr (h0.next+1) 0] true 0)
 gF:h.get (h0.next+3)=some (.cells [.ptr h0.next 0] true 0)
 gL:h.get (h0.next+4)=some (.loop 0 none (FH h0.next) [13] bU bV)
 nx:h0.next+5≤h.next
 lI:L=[]∨I<h0.next
structure TH(h0:Heap)(e:Int)(h:Heap):Prop where
 fr:Fr h0 h []
 gT:∃cs:List AV,cs.length=7∧h.get h0.next=some (.cells cs true 0)
 nx:h0.next+1≤h.next
theorem YL{h0:Heap}{I:Nat}{L:List Int}{S0:RS}{B:Nat}{Q:AX→Env→Heap→Prop}(hQ:∀e' h',QK h0 I L (kg 5 S0).1 (kg 5 S0).2 h'→(kg 5 S0).2.2=0→Q (.exit 0) e' h')
  (hP:∀e' h' j,j≤5→(kg j S0).2.2≠0→TH h0 (kg j S0).2.2 h'→Q (.panic (.iface Gq (.int .i64 (kg j S0).2.2))) e' h'):
  ∀(m j:Nat) (h:Heap) (env:Env),5-j=m→j≤5→(kg j S0).2.2=0→QK h0 I L (kg j S0).1 (kg j S0).2 h→bQ env [(0,.yield (h0.next+4)),(20,.agg [.ptr h0.next 0,.ptr h0.next 1,.ptr h0.next 2,.ptr h0.next 3,.ptr h0.next 4]),(21,.int .i64 ((j:Nat):Int))]→
   VC fs ms B false (.loop jb) env h Q:=by
 intro m;induction m with
 |zero=>
  intro j h env hm hj hz hs bg;have he:j=5:=by omega
  refine ay 5 _ bg ?_;refine aH (aa (z:=true) ?_);conv=>whnf
  refine k7 (by simp;omega) (fun hc=>?_)
  (try rw[hc])
  conv=>whnf
  subst he;exact hQ _ _ hs hz
 |succ m ih=>
  intro j h env hm hj hz hs bg;have hlt:j<5:=by omega
  refine ay 5 _ bg ?_;refine aH (an true ?_);conv=>whnf
  refine an true ?_;conv=>whnf
  refine ny (by simp;omega) (fun hc=>?_)
  (try rw[hc])
  conv=>whnf
  refine aJ (aR (an true ?_));conv=>whnf
  refine⟨_,Bb hlt,?_⟩;conv=>whnf
  refine aJ ?_;obtain⟨fr,gT,rd,g3,gF,gL,nx,lI⟩:=hs;have hjl:=Ib j S0;have qy:kg (j+1) S0=((kg j S0).1++[(aQ MX (kg j S0).2).1],(aQ MX (kg j S0).2).2):=rfl;have Xo:=fun e' h'=>hP e' h' (j+1) (by omega);have RT:(gA (kg j S0).1).length=7:=rfl;have iB:=fun n=>Ch hjl hlt n;generalize(kg j S0).1=l at*;generalize(kg j S0).2=S at*;show VC fs ms B false (.ops ([zM 24 0,zM 25 4]++⟨some 26,none,.call,[.t 24,.t 25]⟩::[zP 27 .not [.t 26]])) _ _ _;refine KK (z:=true) ?_;conv=>whnf
  refine IK (A:=.ops [zM 14 4,zL 15 3,⟨some 16,none,.call,[.c (.func (.func 32) [] []),.t 15,.c (.int .i64 9007199254740991)]⟩,zN 17 14,zS 1 [.t 17,.t 16]]) (id:=1) (l1:=[zL 18 3]) (d:=some 19) (oI:=[.c (.func (.func 52) [] []),.t 18]) gL rfl rfl rfl ?_;refine aa (z:=true) ?_;conv=>whnf
  refine⟨rfl,none,gL,?_⟩;obtain⟨H,hH⟩:∃H,H=h.set (h0.next+4) (.loop 1 none (FH h0.next) [13] bU bV):=⟨_,rfl⟩;have T1:Fr h H [h0.next+4]:=by rw[hH];exact(Fr.refl h _).set (by simp)
  have gT1:H.get h0.next=some (.cells (gA l) true 0):=(T1.keep _ (by omega) (by simp)).trans gT;have Za:H.get (h0.next+2)=some (.cells [.ptr (h0.next+1) 0] true 0):=(T1.keep _ (by omega) (by simp)).trans g3;have gF1:H.get (h0.next+3)=some (.cells [.ptr h0.next 0] true 0):=(T1.keep _ (by omega) (by simp)).trans gF;have gL1:H.get (h0.next+4)=some (.loop 1 none (FH h0.next) [13] bU bV):=by rw[hH,aA]
  have Pm:lQ H (h0.next+1) I L S:=rd.keep T1 (by simp) (lI.imp id (fun h=>by simp;omega));have f1:Fr h0 H []:=by rw[hH];exact fr.gM (by omega)
  have n1:H.next=h.next:=by rw[hH];rfl
  show VC fs ms h.next true _ _ (h.set (h0.next+4) (.loop 1 none (FH h0.next) [13] bU bV)) _;rw[←hH];clear hH;refine aa (z:=true) ?_;conv=>whnf
  refine⟨_,cM Za rfl,?_⟩;conv=>whnf
  refine yo (by decide) Pm fun h2 zJ iu=>?_;conv=>whnf
  have n2:=iu.next;have gT2:h2.get h0.next=some (.cells (gA l) true 0):=(iu.keep _ (by omega) (by simp)).trans gT1;refine cm (bX gT2 rfl (by rw[RT];omega) rfl) fun h3 e3=>?_;have f3:Fr h2 h3 [h0.next]:=by rw[e3];exact(Fr.refl h2 _).set (by simp)
  have n3:h3.next=h2.next:=by rw[e3];rfl
  have Zf:h3.get h0.next=some (.cells (gA (l++[(aQ MX S).1])) true 0):=by
   rw[e3,aA];have:=iB (aQ MX S).1;show some (bP.cells (Heap.splice (gA l) j [AV.int .i64 (aQ MX S).1]) true 0)=_;rw[this]
  have f1n:=f1.next;have Y6:Fr h0 h3 []:=⟨by omega,fun c hc _=>(f3.keep c (by omega) (by simp;omega)).trans ((iu.keep c (by omega) (by simp;omega)).trans (f1.keep c hc (by simp)))⟩;clear e3;have TV:h3.get (h0.next+2)=some (.cells [.ptr (h0.next+1) 0] true 0):=(f3.keep _ (by omega) (by simp)).trans ((iu.keep _ (by omega) (by simp)).trans Za);have gF3:h3.get (h0.next+3)=some (.cells [.ptr h0.next 0] true 0):=(f3.keep _ (by omega) (by simp)).trans ((iu.keep _ (by omega) (by simp)).trans gF1);have gL3:h3.get (h0.next+4)=some (.loop 1 none (FH h0.next) [13] bU bV):=(f3.keep _ (by omega) (by simp)).trans ((iu.keep _ (by omega) (by simp)).trans gL1);have D5:lQ h3 (h0.next+1) I L (aQ MX S).2:=zJ.keep f3 (by simp) (lI.imp id (fun h=>by simp;omega));conv=>whnf
  refine⟨rfl,?_⟩;refine dY (z:=true) ?_;conv=>whnf
  refine⟨_,cM TV rfl,?_⟩;conv=>whnf
  refine CP D5 (fun Sh=>?_) (fun hne=>?_)
  ·refine⟨⟨1,none,gL3⟩,?_⟩;conv=>whnf
   refine dY (z:=true) ?_;conv=>whnf
   refine aa (z:=true) ?_;conv=>whnf
   refine aa (z:=true) ?_;conv=>whnf
   obtain⟨h4,IY⟩:∃h4,h4=h3.set (h0.next+4) (.loop 0 none (FH h0.next) [13] bU bV):=⟨_,rfl⟩;have f4:Fr h3 h4 [h0.next+4]:=by rw[IY];exact(Fr.refl h3 _).set (by simp)
   show VC fs ms B false _ _ (h3.set (h0.next+4) (.loop 0 none (FH h0.next) [13] bU bV)) _;rw[←IY];have n4:h4.next=h3.next:=by rw[IY];rfl
   refine ih (j+1) h4 _ (by omega) (by omega) (by rw[qy];exact Sh) ?_ ⟨rfl,rfl,bC (by omega),trivial⟩;rw[qy];refine⟨⟨by omega,fun c hc _=>(f4.keep c (by omega) (by simp;omega)).trans (Y6.keep c hc (by simp))⟩,(f4.keep _ (by omega) (by simp)).trans Zf,D5.keep f4 (by simp) (lI.imp id (fun h=>by simp;omega)),(f4.keep _ (by omega) (by simp)).trans TV,(f4.keep _ (by omega) (by simp)).trans gF3,by rw[IY,aA],by omega,lI⟩
  ·conv=>whnf
   have:=fun e'=>Xo e' h3 (by rw[qy];exact hne) (by rw[qy];exact⟨Y6,⟨_,rfl,Zf⟩,by omega⟩);simp only[qy] at this;exact this _
def YY(S0:RS)(e:Int):Prop:=∃j,j≤5∧(kg j S0).2.2≠0∧e=(kg j S0).2.2
theorem SK{h0:Heap}{I:Nat}{L:List Int}{S0:RS}{h:Heap}(hz:S0.2=0)(hs:QK h0 I L [] S0 h):VX fs ms 72 [.yield (h0.next+4),.ptr (h0.next+3) 0] h (fun _ h2=>QK h0 I L (kg 5 S0).1 (kg 5 S0).2 h2∧(kg 5 S0).2.2=0) (fun v h2=>∃e,YY S0 e∧v=.iface Gq (.int .i64 e)∧TH h0 e h2):=by
 refine BM (af:=QI) rfl (Nat.le_of_ble_eq_true rfl) ?_;conv=>whnf
 refine an true ?_;conv=>whnf
 repeat(first|(refine⟨_,cM hs.gF rfl,?_⟩;conv=>whnf))
 refine aR ?_;refine YL (h0:=h0) (I:=I) (L:=L) (S0:=S0) ?_ ?_ 5 0 _ _ rfl (Nat.zero_le _) hz hs ⟨rfl,rfl,rfl,trivial⟩
 ·intro e' h' hs' hz';exact⟨[],rfl,hs',hz'⟩
 ·intro e' h' j hj hne hf;exact⟨_,⟨j,hj,hne,rfl⟩,rfl,hf⟩
def wU(S:RS):nq×RS:=(⟨(aQ MX S).1,(aQ MX (aQ MX S).2).1,(gQ 16 (aQ MX (aQ MX S).2).2).1⟩,(gQ 16 (aQ MX (aQ MX S).2).2).2)
def dW:Nat→RS→List nq×RS
 |0,S=>([],S)
 |j+1,S=>((dW j S).1++[(wU (dW j S).2).1],(wU (dW j S).2).2)
def dP(X:List Int):Int×RS:=aQ 32 (kg 5 (X,0)).2
def vp(X:List Int):List nq×RS:=dW (dP X).1.toNat (dP X).2
def fh(X:List Int):Int:=r8 (vp X).2
theorem sB{m:Int}{S:RS}(h:S.2≠0):aQ m S=(0,S):=by unfold aQ;rw[if_pos h]
theorem IE{m:Int}{S:RS}(h:S.2≠0):gQ m S=([],S):=by unfold gQ;rw[sB h,if_pos h]
theorem Pb{S:RS}(h:S.2≠0):(wU S).2=S:=by
 unfold wU;rw[sB h];simp only[sB h,IE h]
theorem DW{S:RS}{j:Nat}(h:(dW j S).2.2≠0):∀k,(dW (j+k) S).2=(dW j S).2
 |0=>rfl
 |k+1=>by
  have ih:=DW h k;show(wU (dW (j+k) S).2).2=_;rw[ih,Pb h]
theorem Ic{S:RS}{j:Nat}(h:(kg j S).2.2≠0):∀k,(kg (j+k) S).2=(kg j S).2
 |0=>rfl
 |k+1=>by
  have ih:=Ic h k;show(aQ MX (kg (j+k) S).2).2=_;rw[ih,sB h]
theorem Bg{X:List Int}(h:(dP X).2.2≠0)(hm:(dP X).1=0):fh X=(dP X).2.2:=by
 unfold fh vp;rw[hm];show r8 (dP X).2=_;unfold r8;rw[if_neg h]
theorem E8{m:Int}{S:RS}(h:(aQ m S).2.2≠0):(aQ m S).1=0:=by
 unfold aQ at h⊢;split
 ·rfl
 ·rename_i h1;rw[if_neg h1] at h;split
  ·rfl
  ·rename_i h2;rw[if_neg h2] at h;exact absurd rfl h
theorem Lt{X:List Int}{e:Int}(h:YY (X,0) e):fh X=e∧e≠0:=by
 obtain⟨j,hj,hne,rfl⟩:=h;have h5:(kg 5 (X,0)).2=(kg j (X,0)).2:=by
  have:=Ic hne (5-j)
  rwa [show j+(5-j)=5 by omega] at this
 have hm:dP X=(0,(kg j (X,0)).2):=by
  unfold dP;rw[h5,sB hne]
 refine⟨?_,hne⟩;rw[Bg (by rw[hm];exact hne) (by rw[hm]),hm]
theorem vU{X:List Int}{j:Nat}(hj:j≤(dP X).1.toNat)(hne:(dW j (dP X).2).2.2≠0):fh X=(dW j (dP X).2).2.2:=by
 have:=DW hne ((dP X).1.toNat-j);rw[show j+((dP X).1.toNat-j)=(dP X).1.toNat by omega] at this;unfold fh vp;rw[this];unfold r8;rw[if_neg hne]
theorem zy:∀(j:Nat) (S:RS),(dW j S).1.length=j
 |0,S=>rfl
 |j+1,S=>by simp[dW,zy j S]
theorem zw{m:Int}{S:RS}(h:okB S.1)(hm:0≤m):(aQ m S).1≤m:=by
 have:=(v7 (most:=m) h).2.2;unfold aQ;split
 ·exact hm
 ·split
  ·exact hm
  ·rename_i h2;exact this (by simpa using h2)
def ld(l:List Int)(w:AV):List AV:=[.int .i64 (l.getD 0 0),.int .i64 (l.getD 1 0),.int .i64 (l.getD 2 0),.int .i64 (l.getD 3 0),.int .i64 (l.getD 4 0),w,.int .i64 0]
theorem Gy{l:List Int}{w:AV}(hc:w.cells=[w])(h:bz w.cells=true):bz (AV.agg (ld l w)).cells=true:=by
 rw[hc] at h;exact h
structure YZ(h0:Heap)(I:Nat)(L:List Int)(l:List Int)(acc:List nq)(S:RS)(h:Heap):Prop where
 fr:Fr h0 h []
 gT:∃w,h.get h0.next=some (.cells (ld l w) true 0)∧GR 3 (h0.next+5) h w (b9 acc)
 rd:lQ h (h0.next+1) I L S
 g3:h.get (h0.next+2)=some (.cells [.ptr (h0.next+1) 0] true 0)
 nx:h0.next+5≤h.next
 lI:L=[]∨I<h0.next
theorem GR.own{s lo:Nat}{h:Heap}{v:AV}{M:List AV}(hr:GR s lo h v M){d:Nat}(ho:gx v d):lo≤d∧d<h.next:=by
 obtain⟨o,n,c,p,rfl⟩:=ho;rcases hr with⟨_,h⟩|⟨_,b,h1,h2,h3,_⟩
 ·simp at h
 ·simp only[AV.sl.injEq] at h3;obtain⟨rfl,_⟩:=h3;exact⟨h1,h2⟩
theorem GR.one{s lo:Nat}{h:Heap}{v:AV}{M:List AV}(hr:GR s lo h v M):v.cells=[v]∧v.cells.length=1∧bz v.cells=true:=by
 rcases hr with⟨_,rfl⟩|⟨_,b,_,_,rfl,_⟩
 ·exact⟨rfl,rfl,rfl⟩
 ·exact⟨rfl,rfl,rfl⟩
theorem GR.Jf{s bytes lo:Nat}{h:Heap}{v:AV}{M:List AV}(hr:GR s lo h v M){x:AV}(hx:x.cells.length=s)(hf:bz x.cells=true)(hs:aL s M=true)(hl:(M.length+1)*bytes≤140737488355328)(hm:M.length+1≤140737488355328):
  ∃v' g',eV (.append s bytes) [v,.sl h.next 0 1 1 false] (h.new (.cells x.cells true 0))=some (v',g')∧GR s h.next g' v' (M++[x])∧h.next≤g'.next∧∀d,d<h.next→¬gx v d→g'.get d=h.get d:=by
 have hsrc:eY s (h.new (.cells x.cells true 0)) (.sl h.next 0 1 1 false)=some (1,x.cells):=wI au (by omega);have AU:ak (M++[x])=ak M++x.cells:=by rw[lg];simp[ak]
 rcases hr with⟨h1,h2⟩|⟨kD,b,h1,h2,h3,h4⟩
 ·subst h1 h2;have:=kJ (bytes:=bytes) hsrc hf (by simpa using hl) (by omega);rw[if_neg (by omega)] at this;refine⟨_,_,this,.inr ⟨by simp,h.next+1,by omega,Nat.lt_succ_self _,rfl,?_⟩,by show h.next≤h.next+1+1;omega,fun c hc _=>?_⟩
  ·rw[AU];exact au (h:=h.new (.cells x.cells true 0))
  ·exact(aF (h:=h.new (.cells x.cells true 0)) (show c<h.next+1 by omega)).trans (aF (by omega))
 ·subst h3;have hg:(h.new (.cells x.cells true 0)).get b=some (.cells (ak M) true s):=by rw[aF h2];exact h4
  refine⟨_,_,rT hg (gX hs) hsrc hf hl hm,.inr ⟨by simp,h.next+1,by omega,Nat.lt_succ_self _,by rw[List.length_append];rfl,?_⟩,by show h.next≤h.next+1+1;omega,fun c hc ho=>?_⟩
  ·have:=au (h:=(h.new (.cells x.cells true 0)).del b) (x:=.cells (ak M++x.cells) true s);rw[show((h.new (.cells x.cells true 0)).del b).next=h.next+1 from rfl] at this;rw[this,AU]
  ·have hne:c≠b:=by rintro rfl;exact ho ⟨_,_,_,_,rfl⟩
   exact(aF (h:=(h.new (.cells x.cells true 0)).del b) (show c<h.next+1 by omega)).trans ((jT hne).trans (aF (by omega)))
theorem SL{h0:Heap}{I:Nat}{L:List Int}{l:List Int}{S0:RS}{n:Nat}(hn:n≤32){B:Nat}{Q:AX→Env→Heap→Prop}(hQ:∀e' h',YZ h0 I L l (dW n S0).1 (dW n S0).2 h'→(dW n S0).2.2=0→bQ e' [(2,.ptr h0.next 0),(3,.ptr (h0.next+2) 0)]→Q (.exit 2) e' h')
  (hP:∀e' h' j,j≤n→(dW j S0).2.2≠0→TH h0 (dW j S0).2.2 h'→Tr.get e' 2=some (.ptr h0.next 0)→Q (.panic (.iface Gq (.int .i64 (dW j S0).2.2))) e' h'):
  ∀(m j:Nat) (h:Heap) (env:Env),n-j=m→j≤n→(dW j S0).2.2=0→YZ h0 I L l (dW j S0).1 (dW j S0).2 h→bQ env [(2,.ptr h0.next 0),(3,.ptr (h0.next+2) 0),(24,.int .i64 ((n:Nat):Int)),(25,.int .i64 ((j:Nat):Int))]→
   VC fs ms B false (.loop qB) env h Q:=by
 intro m;induction m with
 |zero=>
  intro j h env hm hj hz hs bg;have he:j=n:=by omega
  refine ay 5 _ bg ?_;refine aH (aa (z:=true) ?_);conv=>whnf
  refine k7 (by simp;omega) (fun hc=>?_)
  (try rw[hc])
  conv=>whnf
  subst he;exact hQ _ _ hs hz ⟨rfl,rfl,trivial⟩
 |succ m ih=>
  intro j h env hm hj hz hs bg;have hlt:j<n:=by omega
  refine ay 5 _ bg ?_;refine aH (an true ?_);conv=>whnf
  refine an true ?_;conv=>whnf
  refine ny (by simp;omega) (fun hc=>?_)
  (try rw[hc])
  conv=>whnf
  obtain⟨fr,⟨w,gT,gr⟩,rd,g3,nx,lI⟩:=hs;have hjl:=zy j S0;have qy:dW (j+1) S0=((dW j S0).1++[(wU (dW j S0).2).1],(wU (dW j S0).2).2):=rfl;have Xo:=fun e' h'=>hP e' h' (j+1) (by omega);generalize(dW j S0).1=acc at*;generalize(dW j S0).2=S at*;refine aJ (aR (an true ?_));conv=>whnf
  refine⟨_,cM g3 rfl,?_⟩;conv=>whnf
  refine yo (by decide) rd fun h1 Pm pZ=>?_;have n1:=pZ.next;conv=>whnf
  refine cm (bX au rfl (Nat.le_refl _) rfl) fun h2 e2=>?_;have f2:Fr h1 h2 []:=by rw[e2];exact((Fr.refl h1 []).new).gM (Nat.le_refl _)
  have n2:h2.next=h1.next+1:=by rw[e2];rfl
  have g62:h2.get h1.next=some (.cells [.int .i64 (aQ MX S).1,.int .i64 0,.str []] true 0):=by rw[e2,aA];rfl
  clear e2;have zJ:=Pm.keep f2 (by simp) (.inr (by simp));have Y7:∀c,c<h.next→c≠h0.next+1→h2.get c=h.get c:=fun c hc hn=>(f2.keep c (by omega) (by simp)).trans (pZ.keep c hc (by simp;omega));conv=>whnf
  refine an true ?_;conv=>whnf
  refine⟨_,cM ((Y7 _ (by omega) (by omega)).trans g3) rfl,?_⟩;conv=>whnf
  refine yo (by decide) zJ fun h3 D5 qY=>?_;have n3:=qY.next;conv=>whnf
  have g63:=(qY.keep h1.next (by omega) (by simp;omega)).trans g62;refine cm (bX g63 rfl (by simp) rfl) fun h4 e4=>?_;have f4:Fr h3 h4 [h1.next]:=by rw[e4];exact(Fr.refl h3 _).set (by simp)
  have n4:h4.next=h3.next:=by rw[e4];rfl
  have g64:h4.get h1.next=some (.cells [.int .i64 (aQ MX S).1,.int .i64 (aQ MX (aQ MX S).2).1,.str []] true 0):=by rw[e4,aA];rfl
  clear e4;have SH:=D5.keep f4 (by simp;omega) (lI.imp id (fun h=>by simp;omega));have Y8:∀c,c<h.next→c≠h0.next+1→h4.get c=h.get c:=fun c hc hn=>(f4.keep c (by omega) (by simp;omega)).trans ((qY.keep c (by omega) (by simp;omega)).trans (Y7 c hc hn));conv=>whnf
  refine an true ?_;conv=>whnf
  refine⟨_,cM ((Y8 _ (by omega) (by omega)).trans g3) rfl,?_⟩;conv=>whnf
  refine Py (by decide) SH fun h5 SI Cu=>?_;have n5:=Cu.next;conv=>whnf
  have g65:=(Cu.keep h1.next (by omega) (by simp;omega)).trans g64;refine cm (bX g65 rfl (by simp) rfl) fun h6 e6=>?_;have f6:Fr h5 h6 [h1.next]:=by rw[e6];exact(Fr.refl h5 _).set (by simp)
  have n6:h6.next=h5.next:=by rw[e6];rfl
  have g66:h6.get h1.next=some (.cells (top (wU S).1).cells true 0):=by rw[e6,aA];rfl
  clear e6;have Ut:lQ h6 (h0.next+1) I L (wU S).2:=SI.keep f6 (by simp;omega) (lI.imp id (fun h=>by simp;omega));have P7:∀c,c<h.next→c≠h0.next+1→h6.get c=h.get c:=fun c hc hn=>(f6.keep c (by omega) (by simp;omega)).trans ((Cu.keep c (by omega) (by simp;omega)).trans (Y8 c hc hn));have P9:Fr h0 h6 []:=⟨by omega,fun c hc _=>(P7 c (by omega) (by omega)).trans (fr.keep c hc (by simp))⟩;have GH:GR 3 (h0.next+5) h6 w (b9 acc):=by
   rcases gr with h|⟨hne,b,b1,b2,b3,b4⟩
   ·exact .inl h
   ·exact .inr ⟨hne,b,b1,by omega,b3,(P7 b b2 (by omega)).trans b4⟩
  conv=>whnf
  refine aJ (En (z:=true) rfl ?_);conv=>whnf
  refine⟨_,cM ((P7 _ (by omega) (by omega)).trans g3) rfl,?_⟩;conv=>whnf
  refine CP Ut (fun Sh=>?_) (fun hne=>?_)
  ·conv=>whnf
   refine aa (z:=true) ?_;conv=>whnf
   have Zg:=(P7 h0.next (by omega) (by omega)).trans gT;refine⟨_,cM Zg rfl,?_⟩;conv=>whnf
   refine⟨top (wU S).1,FG g66 (Nat.le_refl _),?_⟩;conv=>whnf
   obtain⟨w',g',ha,hr',hn',hk'⟩:=GR.Jf (bytes:=32) GH (x:=top (wU S).1) rfl rfl (dK acc) (by rw[bq];omega) (by rw[bq];omega);refine⟨_,_,ha,?_⟩;conv=>whnf
   obtain⟨c1,c2,c3⟩:=GR.one hr';have gTg:g'.get h0.next=some (.cells (ld l w) true 0):=(hk' _ (by omega) (fun hw=>by have:=(GR.own GH hw).1;omega)).trans Zg;refine cm (bX gTg c2 (by show 0+0+5+1≤7;omega) c3) fun h7 e7=>?_;have f7:Fr g' h7 [h0.next]:=by rw[e7];exact(Fr.refl g' _).set (by simp)
   have n7:h7.next=g'.next:=by rw[e7];rfl
   have Xd:h7.get h0.next=some (.cells (ld l w') true 0):=by rw[e7,aA,c1];rfl
   clear e7;have Pc:∀d,d<h0.next+5→¬gx w d:=fun d hd hw=>by have:=(GR.own GH hw).1;omega
   have rdg:lQ g' (h0.next+1) I L (wU S).2:=by
    obtain⟨⟨v,q1,q2⟩,q3,q4,q5,q6⟩:=Ut;refine⟨⟨v,(hk' _ q4 (Pc _ (by omega))).trans q1,q2⟩,?_,Nat.lt_of_lt_of_le q4 hn',q5,q6⟩;rcases q3 with h|⟨⟨wr,es,k1⟩,k2,k3⟩
    ·exact .inl h
    ·rcases lI with h|h
     ·exact .inl h
     ·exact .inr ⟨⟨wr,es,(hk' _ k3 (fun hw=>by have:=(GR.own GH hw).1;omega)).trans k1⟩,k2,Nat.lt_of_lt_of_le k3 hn'⟩
   conv=>whnf
   refine aa (z:=true) ?_;conv=>whnf
   refine ih (j+1) h7 _ (by omega) (by omega) (by rw[qy];exact Sh) ?_ ⟨rfl,rfl,rfl,bC (by omega),trivial⟩;rw[qy];refine⟨⟨by omega,fun c hc _=>(f7.keep c (by omega) (by simp;omega)).trans ((hk' c (by omega) (Pc c (by omega))).trans (P9.keep c hc (by simp)))⟩,⟨w',Xd,?_⟩,rdg.keep f7 (by simp) (lI.imp id (fun h=>by simp;omega)),?_,by omega,lI⟩
   ·have h8:GR 3 (h0.next+5) g' w' (b9 (acc++[(wU S).1])):=by
     rw[b9,List.map_append];exact hr'.low (by omega)
    exact h8.keep f7 (by simp)
   ·exact(f7.keep _ (by omega) (by simp)).trans ((hk' _ (by omega) (Pc _ (by omega))).trans ((P7 _ (by omega) (by omega)).trans g3))
  ·conv=>whnf
   have:=fun e'=>Xo e' h6 (by rw[qy];exact hne) (by rw[qy];exact⟨P9,⟨_,rfl,(P7 h0.next (by omega) (by omega)).trans gT⟩,by omega⟩);simp only[qy] at this;exact this _ rfl
theorem qk{e:Env}{h:Heap}{a b o n es:Nat}{wr:Bool}{vs:List AV}(ha:Tr.get e a=some (.ptr b o))(hg:h.get b=some (.cells vs wr es))(hl:o+n≤vs.length):er e h [.cell a n true]=some [.agg ((vs.drop o).take n)]:=by
 have:h.bt b o n=some ((vs.drop o).take n):=by
  have:=ez hg hl;rw[this]
 simp only[er,tJ,ha,cond_true,this,Option.map_some]
def vf(X:List Int)(w:AV):List AV:=if fh X=0 then ld (kg 5 (X,0)).1 w else [.int .i64 0,.int .i64 0,.int .i64 0,.int .i64 0,.int .i64 0,.az,.int .i64 (fh X)]
def wm(X:List Int):List nq:=if fh X=0 then(vp X).1 else []
theorem Pn{I:Nat}{L X:List Int}{v:AV}{h:Heap}(hs:oH h I L v X){Q:AV→Heap→Prop}(hQ:∀w h',Fr h h' []→GR 3 h.next h' w (b9 (wm X))→Q (.agg (vf X w)) h'):VD fs ms 35 [v] h Q:=by
 refine II (af:=Tk) (l1:=[⟨some 8,none,.p (.ec (.func 51) 0),[.t 2]⟩]) (dst:=none) (r:=.t 8) (g:=51) (ag:=Tv) (t:=2) (l2:=[⟨some 1,none,.p .yh,[.t 2]⟩]) (first:=[]) (aO:=[.ptr h.next 0])
  rfl (Nat.le_of_ble_eq_true rfl) rfl rfl rfl (Nat.le_of_ble_eq_true rfl) rfl rfl rfl rfl ?_
 conv=>whnf
 refine aa (z:=true) ?_;conv=>whnf
 have lI:L=[]∨I<h.next:=hs.gI.imp id (fun h=>h.2);obtain⟨h1,GN⟩:∃h1,h1=h.new (.cells (gA []) true 0):=⟨_,rfl⟩;have g1:h1.get h.next=some (.cells (gA []) true 0):=by rw[GN];exact au
 have pZ:Fr h h1 []:=by rw[GN];exact(Fr.refl h []).new
 have n1:h1.next=h.next+1:=by rw[GN];rfl
 have uH:oH h1 I L v X:=hs.keep pZ (.inr (by simp));refine⟨rfl,dY (z:=true) ?_⟩;conv=>whnf
 refine⟨rfl,rfl,?_⟩;show VC fs ms _ _ _ _ (h.new (.cells (gA []) true 0)) _;rw[←GN];clear GN;refine VC.mono (Q:=fun x e3 h3=>Tr.get e3 2=some (.ptr h.next 0)∧((x=.ret∧fh X=0∧∃w,Fr h h3 []∧h3.get h.next=some (.cells (ld (kg 5 (X,0)).1 w) true 0)∧GR 3 (h.next+5) h3 w (b9 (vp X).1))∨(∃e,x=.panic (.iface Gq (.int .i64 e))∧fh X=e∧e≠0∧TH h e h3))) ?_ ?_
 ·clear hQ;refine ay 4 [(0,v),(2,.ptr h.next 0)] ⟨rfl,rfl,trivial⟩ ?_;refine an true ?_;conv=>whnf
  refine D6 uH fun h2 zJ iu n2=>?_;rw[n1] at zJ;conv=>whnf
  refine cm (bX au rfl (Nat.le_refl _) rfl) fun h3 e3=>?_;have hn2:h2.next=h.next+2:=by omega
  have f3:Fr h2 h3 []:=by rw[e3];exact((Fr.refl h2 []).new).gM (Nat.le_refl _)
  have n3:h3.next=h.next+3:=by rw[e3];show h2.next+1=_;omega
  have TV:h3.get (h.next+2)=some (.cells [.ptr (h.next+1) 0] true 0):=by rw[e3,←hn2,aA,←n1];rfl
  clear e3;have g13:h3.get h.next=some (.cells (gA []) true 0):=(f3.keep _ (by omega) (by simp)).trans ((iu.keep _ (by omega) (by simp)).trans g1);have D5:=zJ.keep f3 (by simp) (.inr (by simp));have P1:Fr h h3 []:=pZ.trans (iu.trans f3);conv=>whnf
  refine aJ (an true ?_);conv=>whnf
  refine AJ ?_;obtain⟨h4,IY⟩:∃h4,h4=h3.new (.cells [.ptr h.next 0] true 0):=⟨_,rfl⟩;have f4:Fr h3 h4 []:=by rw[IY];exact(Fr.refl h3 []).new
  have n4:h4.next=h.next+4:=by rw[IY];show h3.next+1=_;omega
  have g4F:h4.get (h.next+3)=some (.cells [.ptr h.next 0] true 0):=by rw[IY,←n3];exact au
  conv=>whnf
  show VC fs ms _ _ _ _ (h3.new (.cells [.ptr h.next 0] true 0)) _;rw[←IY];clear IY;refine aR ?_;refine ay 4 [(2,.ptr h.next 0),(3,.ptr (h.next+2) 0),(12,.func (.func 72) [] [.ptr (h.next+3) 0])] ⟨rfl,by rw[←hn2];rfl,by rw[←n3];rfl,trivial⟩ ?_;refine Fz (h.next+4) n4 rfl rfl ?_;obtain⟨h5,Rm⟩:∃h5,h5=h4.new (.loop 0 none (FH h.next) [13] bU bV):=⟨_,rfl⟩;have f5:Fr h4 h5 []:=by rw[Rm];exact(Fr.refl h4 []).new
  have n5:h5.next=h.next+5:=by rw[Rm];show h4.next+1=_;omega
  have g5L:h5.get (h.next+4)=some (.loop 0 none (FH h.next) [13] bU bV):=by rw[Rm,←n4];exact au
  show VX fs ms _ _ (h4.new (.loop 0 none (FH h.next) [13] bU bV)) _ _;rw[←Rm];clear Rm;have f35:Fr h3 h5 []:=f4.trans f5;have hq:QK h I L [] (X,0) h5:=⟨P1.trans f35,(f35.keep _ (by omega) (by simp)).trans g13,D5.keep f35 (by simp) (.inr (by simp)),(f35.keep _ (by omega) (by simp)).trans TV,(f5.keep _ (by omega) (by simp)).trans g4F,g5L,by omega,lI⟩;refine VX.mono (SK (h0:=h) (S0:=(X,0)) rfl hq) ?_ ?_
  rotate_left
  ·rintro v6 h6 ⟨e,hm,rfl,hf⟩;conv=>whnf
   exact⟨rfl,.inr ⟨e,rfl,(Lt hm).1,(Lt hm).2,hf⟩⟩
  rintro _ h6 ⟨Qp,hz6⟩;have ZB:=Ib 5 (X,0);have G5:dP X=aQ 32 (kg 5 (X,0)).2:=rfl;have jf:vp X=dW (dP X).1.toNat (dP X).2:=rfl;generalize(kg 5 (X,0)).1=l5 at*;generalize(kg 5 (X,0)).2=S5 at*;refine⟨.normal,0,Qp.gL,by decide,by simp,?_⟩;obtain⟨h7,T0⟩:∃h7,h7=h6.set (h.next+4) (.loop 3 none (FH h.next) [13] bU bV):=⟨_,rfl⟩;have f7:Fr h6 h7 [h.next+4]:=by rw[T0];exact(Fr.refl h6 _).set (by simp)
  have n7:h7.next=h6.next:=by rw[T0];rfl
  show VC fs ms _ _ _ (ek 4 _) (h6.set (h.next+4) (.loop 3 none (FH h.next) [13] bU bV)) _;rw[←T0];clear T0;obtain⟨q1,q2,q3,q4,q5,q6,q7,q8⟩:=Qp;have f07:Fr h h7 []:=⟨by omega,fun c hc _=>(f7.keep c (by omega) (by simp;omega)).trans (q1.keep c hc (by simp))⟩;have Xd:=(f7.keep h.next (by omega) (by simp)).trans q2;have Zb:=(f7.keep (h.next+2) (by omega) (by simp)).trans q4;have SJ:=q3.keep f7 (by simp) (lI.imp id (fun h=>by simp;omega));refine ay 3 [(2,.ptr h.next 0),(3,.ptr (h.next+2) 0)] ⟨rfl,rfl,trivial⟩ ?_;refine an true ?_;conv=>whnf
  refine⟨_,cM Zb rfl,?_⟩;conv=>whnf
  have XZ:=zw (m:=32) q3.ok (by omega);have Ow:=qa (most:=32) q3.ok;refine yo (by decide) SJ fun h8 Qu TQ=>?_;rw[←G5] at*;have n8:=TQ.next;have KU:Fr h h8 []:=⟨by omega,fun c hc _=>(TQ.keep c (by omega) (by simp;omega)).trans (f07.keep c hc (by simp))⟩;have Zh:=(TQ.keep h.next (by omega) (by simp)).trans Xd;have Zc:=(TQ.keep (h.next+2) (by omega) (by simp)).trans Zb;conv=>whnf
  refine aJ (En (z:=true) rfl ?_);conv=>whnf
  refine⟨_,cM Zc rfl,?_⟩;conv=>whnf
  refine CP Qu (fun hz8=>?_) (fun hne=>?_)
  ·obtain⟨n,hn⟩:=Int.eq_ofNat_of_zero_le Ow;have OA:n≤32:=by omega
   have hnt:(dP X).1.toNat=n:=by rw[hn];rfl
   rw[hnt] at jf;conv=>whnf
   refine aJ (an true ?_);conv=>whnf
   refine aR ?_;refine SL (h0:=h) (I:=I) (L:=L) (l:=l5) (S0:=(dP X).2) (n:=n) OA ?_ ?_ n 0 h8 _ rfl (Nat.zero_le _) hz8 ⟨KU,⟨.az,Zh,.inl ⟨rfl,rfl⟩⟩,Qu,Zc,by omega,lI⟩ ⟨rfl,rfl,by rw[←hn];rfl,rfl,trivial⟩
   ·intro e' h9 ZG hz9 ha;rw[←jf] at ZG;obtain⟨r1,⟨w,r2,r3⟩,r4,r5,r6,r7⟩:=ZG;show VC fs ms _ _ _ _ _ _;refine ay 3 _ ha ?_;refine aJ (an true ?_);conv=>whnf
    refine⟨_,cM r5 rfl,?_⟩;conv=>whnf
    refine QY r4 ?_;conv=>whnf
    refine an true ?_;conv=>whnf
    refine cj ?_;conv=>whnf
    refine br (fun hc=>?_) (fun hc=>?_)<;>(try rw[hc])<;>(conv=>whnf)
    ·have hne:fh X≠0:=by simpa[fh] using hc
     refine BL (z:=true) rfl ?_;conv=>whnf
     exact⟨_,_,rfl,rfl,rfl,.inr ⟨_,rfl,rfl,hne,r1,⟨_,rfl,r2⟩,by omega⟩⟩
    ·have heq:fh X=0:=by simpa[fh] using hc
     refine aa (z:=true) ?_;conv=>whnf
     refine aa (z:=true) ?_;conv=>whnf
     refine⟨.agg (ld l5 w),FG r2 (Nat.le_refl _),?_⟩;conv=>whnf
     obtain⟨c1,c2,c3⟩:=GR.one r3;refine cm (bX r2 rfl (Nat.le_refl _) (Gy c1 c3)) fun Qd W1=>?_;have f10:Fr h9 Qd [h.next]:=by rw[W1];exact(Fr.refl h9 _).set (by simp)
     have Xc:Qd.get h.next=some (.cells (ld l5 w) true 0):=by rw[W1,aA];rfl
     clear W1;conv=>whnf
     refine⟨rfl,.inl ⟨rfl,heq,w,⟨Nat.le_trans r1.next f10.next,fun c hc _=>(f10.keep c (by have:=r1.next;omega) (by simp;omega)).trans (r1.keep c hc (by simp))⟩,Xc,r3.keep f10 (by simp)⟩⟩
   ·intro e' h9 j hj hne hf h2;rw[←hnt] at hj;exact⟨h2,.inr ⟨_,rfl,vU hj hne,hne,hf⟩⟩
  ·conv=>whnf
   exact⟨rfl,.inr ⟨_,rfl,Bg hne (show(dP X).1=0 from E8 (S:=(kg 5 (X,0)).2) hne),hne,KU,⟨_,rfl,Zh⟩,by omega⟩⟩
 ·rintro x e3 h3 ⟨wS,⟨rfl,hz,w,qY,gT,gr⟩|⟨e,rfl,hz,hne,hf⟩⟩
  ·refine⟨.inr (.inl rfl),rfl,?_⟩;conv=>whnf
   refine dY (z:=true) ?_;conv=>whnf
   refine⟨rfl,aa (z:=true) ?_⟩;conv=>whnf
   refine⟨.inl rfl,[.agg (ld (kg 5 (X,0)).1 w)],qk wS gT (Nat.le_refl _),?_⟩;have:=hQ w h3 qY (by unfold wm;rw[if_pos hz];exact gr.low (by omega));unfold vf at this;rw[if_pos hz] at this;exact this
  ·refine⟨.inr (.inr ⟨_,rfl⟩),rfl,?_⟩;conv=>whnf
   refine dY (z:=true) ?_;conv=>whnf
   refine⟨rfl,aa (z:=true) ?_⟩;conv=>whnf
   obtain⟨f1,⟨cs,hl,g7⟩,n7⟩:=hf;refine cm (bX g7 rfl (by show 0+0+7≤cs.length;omega) rfl) fun h4 e4=>?_;have uz:Fr h h4 []:=by rw[e4];exact f1.gM (Nat.le_refl _)
   have g4:h4.get h.next=some (.cells [.int .i64 0,.int .i64 0,.int .i64 0,.int .i64 0,.int .i64 0,.az,.int .i64 e] true 0):=by
    rw[e4,aA]
    match cs,hl with
    |[_,_,_,_,_,_,_],_=>rfl
   clear e4;conv=>whnf
   refine⟨.inl rfl,[.agg [.int .i64 0,.int .i64 0,.int .i64 0,.int .i64 0,.int .i64 0,.az,.int .i64 e]],qk wS g4 (Nat.le_refl _),?_⟩;have:=hQ .az h4 uz (by unfold wm;rw[if_neg (by rw[hz];exact hne)];exact .inl ⟨rfl,rfl⟩);unfold vf at this;rw[if_neg (by rw[hz];exact hne),hz] at this;exact this
end Ir
end Go.Proofs.YtmnolnoeibhjgaaGreat
