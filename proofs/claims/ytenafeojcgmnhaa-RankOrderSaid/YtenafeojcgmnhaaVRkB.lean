/-
  Rank: what is put, lowered and removed; the first loop of RankOrder.
-/
import Derived.Test.YtenafeojcgmnhaaVRkA
import Derived.KernelRfl
set_option maxRecDepth 100000
set_option linter.unusedSimpArgs false
set_option linter.unusedVariables false
namespace Go.Proofs.Ytenafeojcgmnhaa
open Go Ads
namespace Ir
theorem qi:PC fs ms 11 [] (.bool true):=Ln (n:=1000000) (by kernel_rfl)
abbrev zX:=Int×Int×Int
def rdv(x:zX):AV:=.agg [.int .i64 x.1,.int .i64 x.2.1,.int .i64 x.2.2]
def p9(l:List zX):List AV:=l.map rdv
theorem qc(l:List zX):(p9 l).length=l.length:=List.length_map ..
theorem yD(l:List zX):iy (p9 l)=true:=rE (enc:=rdv) (fun _=>rfl) l
theorem DO{l:List zX}{j k:Nat}(hj:j<l.length):pV (.ak 3) [.fz k (p9 l),.int .i64 ((j:Nat):Int)]=some (.fp (rdv l[j]).cells 0):=
 pP (x:=rdv l[j]) (by rw[p9,List.getElem?_map,List.getElem?_eq_getElem hj];rfl) rfl
def gN(D:List Int)(i:Nat):Int:=D.getD i 0
def gB(W:List Bool)(i:Nat):Bool:=W.getD i false
theorem yR{D:List Int}{i:Nat}(h:i<D.length)(x:Int)(k:Nat):gN (D.set i x) k=if k=i then x else gN D k:=by
 simp only[gN,List.getD_eq_getElem?_getD,List.getElem?_set];by_cases hk:i=k
 ·subst hk;simp[h]
 ·rw[if_neg hk,if_neg (Ne.symm hk)]
theorem yQ{D:List Bool}{i:Nat}(h:i<D.length)(x:Bool)(k:Nat):gB (D.set i x) k=if k=i then x else gB D k:=by
 simp only[gB,List.getD_eq_getElem?_getD,List.getElem?_set];by_cases hk:i=k
 ·subst hk;simp[h]
 ·rw[if_neg hk,if_neg (Ne.symm hk)]
def bol(l:List Bool):List AV:=l.map AV.bool
structure Nt(h:Heap)(k p:Nat)(S:List Nat)(L:List Id)(P:Nat→Nat)(t u:Nat)(W:List Bool)(V:List Int):Prop where
 ra:mG h k p S L P
 gt:h.get t=some (.cells (bol W) true 0)
 gu:h.get u=some (.cells (ints V) true 0)
 lt:t<h.next
 lu:u<h.next
 tS:t∉S
 uS:u∉S
 tu:t≠u
 wl:W.length=64
 vl:V.length=64
 to:∀y∈L,gB W y.1=true∧gN V y.1=y.2
 of:∀i,i<64→gB W i=true→(i,gN V i)∈L
variable {h:Heap} {k p t u:Nat} {S:List Nat} {L:List Id} {P:Nat→Nat} {W:List Bool} {V:List Int}
theorem Nt.small(N:Nt h k p S L P t u W V){y:Id}(hy:y∈L):y.1<64:=by
 obtain⟨i,hi,rfl⟩:=bZ.1 hy;exact N.ra.pl.small i hi
theorem Nt.no(N:Nt h k p S L P t u W V){i:Nat}(hi:i<64)(hn:∀y∈L,y.1≠i):gB W i=false:=by
 cases hb:gB W i with
 |false=>rfl
 |true=>exact absurd rfl (hn _ (N.of i hi hb))
theorem Nt.wC(N:Nt h k p S L P t u W V){i:Nat}(hi:i<64){b:Bool}(hb:gB W i=b):rV .bW [.ptr t (0+i*1)] h=some (.bool b):=by
 refine bQ N.gt ?_;have hl:i<W.length:=by rw[N.wl];exact hi
 rw[Nat.zero_add,Nat.mul_one,bol,List.getElem?_map,List.getElem?_eq_getElem hl,←hb,gB,List.getD_eq_getElem?_getD,List.getElem?_eq_getElem hl];rfl
theorem Nt.S0(N:Nt h k p S L P t u W V){i:Nat}(hi:i<64):rV .bW [.ptr u (0+i*1)] h=some (.int .i64 (gN V i)):=by
 refine bQ N.gu ?_;have hl:i<V.length:=by rw[N.vl];exact hi
 rw[Nat.zero_add,Nat.mul_one,ints,List.getElem?_map,List.getElem?_eq_getElem hl,gN,List.getD_eq_getElem?_getD,List.getElem?_eq_getElem hl];rfl
theorem Nt.S8(N:Nt h k p S L P t u W V){i:Nat}(hi:i<64)(b:Bool):eV (.store 1) [.ptr t (0+i*1),.bool b] h=some (.undef,h.set t (.cells (bol (W.set i b)) true 0)):=by
 have hl:i<(bol W).length:=by rw[bol,List.length_map,N.wl];exact hi
 have:=fQ (n:=1) (o:=0+i*1) (v:=.bool b) N.gt rfl (by rw[Nat.zero_add,Nat.mul_one];exact hl) rfl;rw[this,Nat.zero_add,Nat.mul_one];show some (AV.undef,h.set t (.cells (Heap.splice (bol W) i [.bool b]) true 0))=_;rw[iG _ _ _ hl,bol,bol,List.map_set]
theorem Nt.Vl(N:Nt h k p S L P t u W V){i:Nat}(hi:i<64)(x:Int):eV (.store 1) [.ptr u (0+i*1),.int .i64 x] h=some (.undef,h.set u (.cells (ints (V.set i x)) true 0)):=by
 have hl:i<(ints V).length:=by rw[ck,N.vl];exact hi
 have:=fQ (n:=1) (o:=0+i*1) (v:=.int .i64 x) N.gu rfl (by rw[Nat.zero_add,Nat.mul_one];exact hl) rfl;rw[this,Nat.zero_add,Nat.mul_one];show some (AV.undef,h.set u (.cells (Heap.splice (ints V) i [.int .i64 x]) true 0))=_;rw[iG _ _ _ hl,ints,ints,List.map_set]
structure Nb(h:Heap)(t u:Nat)(S:List Nat)(W:List Bool)(V:List Int):Prop where
 gt:h.get t=some (.cells (bol W) true 0)
 gu:h.get u=some (.cells (ints V) true 0)
 lt:t<h.next
 lu:u<h.next
 tS:t∉S
 uS:u∉S
theorem Nt.nb(N:Nt h k p S L P t u W V){h':Heap}{S':List Nat}(o:Own h h' S S'):Nb h' t u S' W V:=by
 have off:∀c,c<h.next→c∉S→c∉S':=by
  intro c hc hn hm;rcases o.new c hm with h|h
  ·exact hn h
  ·omega
 exact⟨by rw[o.fr.keep t N.lt N.tS];exact N.gt,by rw[o.fr.keep u N.lu N.uS];exact N.gu,Nat.lt_of_lt_of_le N.lt o.fr.next,Nat.lt_of_lt_of_le N.lu o.fr.next,off t N.lt N.tS,off u N.lu N.uS⟩
theorem Nb.wC{W:List Bool}(B:Nb h t u S W V)(wl:W.length=64){i:Nat}(hi:i<64){b:Bool}(hb:gB W i=b):rV .bW [.ptr t (0+i*1)] h=some (.bool b):=by
 refine bQ B.gt ?_;have hl:i<W.length:=by rw[wl];exact hi
 rw[Nat.zero_add,Nat.mul_one,bol,List.getElem?_map,List.getElem?_eq_getElem hl,←hb,gB,List.getD_eq_getElem?_getD,List.getElem?_eq_getElem hl];rfl
theorem Nb.S0(B:Nb h t u S W V)(vl:V.length=64){i:Nat}(hi:i<64):rV .bW [.ptr u (0+i*1)] h=some (.int .i64 (gN V i)):=by
 refine bQ B.gu ?_;have hl:i<V.length:=by rw[vl];exact hi
 rw[Nat.zero_add,Nat.mul_one,ints,List.getElem?_map,List.getElem?_eq_getElem hl,gN,List.getD_eq_getElem?_getD,List.getElem?_eq_getElem hl];rfl
theorem Nb.S8(B:Nb h t u S W V)(wl:W.length=64){i:Nat}(hi:i<64)(b:Bool):eV (.store 1) [.ptr t (0+i*1),.bool b] h=some (.undef,h.set t (.cells (bol (W.set i b)) true 0)):=by
 have hl:i<(bol W).length:=by rw[bol,List.length_map,wl];exact hi
 have:=fQ (n:=1) (o:=0+i*1) (v:=.bool b) B.gt rfl (by rw[Nat.zero_add,Nat.mul_one];exact hl) rfl;rw[this,Nat.zero_add,Nat.mul_one];show some (AV.undef,h.set t (.cells (Heap.splice (bol W) i [.bool b]) true 0))=_;rw[iG _ _ _ hl,bol,bol,List.map_set]
theorem Nb.Vl(B:Nb h t u S W V)(vl:V.length=64){i:Nat}(hi:i<64)(x:Int):eV (.store 1) [.ptr u (0+i*1),.int .i64 x] h=some (.undef,h.set u (.cells (ints (V.set i x)) true 0)):=by
 have hl:i<(ints V).length:=by rw[ck,vl];exact hi
 have:=fQ (n:=1) (o:=0+i*1) (v:=.int .i64 x) B.gu rfl (by rw[Nat.zero_add,Nat.mul_one];exact hl) rfl;rw[this,Nat.zero_add,Nat.mul_one];show some (AV.undef,h.set u (.cells (Heap.splice (ints V) i [.int .i64 x]) true 0))=_;rw[iG _ _ _ hl,ints,ints,List.map_set]
theorem Nb.NG(B:Nb h t u S W V)(tu:t≠u)(W':List Bool):Nb (h.set t (.cells (bol W') true 0)) t u S W' V:=⟨aV,by rw[bw (Ne.symm tu)];exact B.gu,B.lt,B.lu,B.tS,B.uS⟩
theorem Nb.Rp(B:Nb h t u S W V)(tu:t≠u)(V':List Int):Nb (h.set u (.cells (ints V') true 0)) t u S W V':=⟨by rw[bw tu];exact B.gt,aV,B.lt,B.lu,B.tS,B.uS⟩
theorem mG.set{h:Heap}(hr:mG h k p S L P){c:Nat}(hc:c∉S)(x:cw):mG (h.set c x) k p S L P:=by
 obtain⟨kS,pS,hS⟩:=hr.own;have n1:∀b∈S,b≠c:=fun b hb e=>hc (e▸hb);refine⟨by rw[bw (n1 k kS)];exact hr.hk,hr.ne,hr.lk,hr.lp,?_,hr.pl,hr.hp⟩;rcases hr.row with⟨h1,h2,h3⟩|⟨r,cap,rest,h1,h2,h3,h4⟩
 ·exact .inl ⟨h1,h2,by rw[bw (n1 p pS)];exact h3⟩
 ·exact .inr ⟨r,cap,rest,h1,h2,h3,h4.set x (Ne.symm (n1 p pS)) (Ne.symm (n1 r (by rw[h1];simp)))⟩
end Ir
end Go.Proofs.Ytenafeojcgmnhaa
