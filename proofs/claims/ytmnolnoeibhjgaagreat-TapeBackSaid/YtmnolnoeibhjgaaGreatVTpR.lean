/-
  Tape: what was written is read as it was (plain Lean).
-/
import Derived.Test.YtmnolnoeibhjgaaGreatVTpQ
set_option maxRecDepth 100000
set_option linter.unusedSimpArgs false
set_option linter.unusedVariables false
namespace Go.Proofs.YtmnolnoeibhjgaaGreat
open Go Ads
namespace Ir
theorem IB{v c:Int}(hv:0≤v)(FF:v<2^56)(hc:0≤c)(FD:c<256):jx v c=v*256+c:=by
 obtain⟨a,rfl⟩:=Int.eq_ofNat_of_zero_le hv;obtain⟨b,rfl⟩:=Int.eq_ofNat_of_zero_le hc;have ha:a<2^56:=by omega
 have hb:b<2^8:=by omega
 unfold jx;rw[sR,sR,sR];rw[show((a:Int)*2^8)%18446744073709551616=((a*256:Nat):Int) by omega,show(b:Int)%18446744073709551616=((b:Nat):Int) by omega];rw[BitVec.ofInt_natCast,BitVec.ofInt_natCast];rw[BitVec.toNat_or,BitVec.toNat_ofNat,BitVec.toNat_ofNat,Nat.mod_eq_of_lt (by omega),Nat.mod_eq_of_lt (by omega)];have:=Nat.shiftLeft_add_eq_or_of_lt hb a;rw[Nat.shiftLeft_eq] at this;rw[show a*256=a*2^8 by omega,←this];omega
theorem z8{n:Int}:w8 n=n%256:=by simp[w8,IntKind.wrap,IntKind.signed,IntKind.bits]
theorem Em{n:Int}(h1:255≤n)(h2:n≤9007199254740991):∀d:Nat,d≤8→(CA n (8-d)).foldl jx ((n-254)/2^(8*d))=n-254
 |0,_=>by simp[CA]
 |d+1,hd=>by
  have ih:=Em h1 h2 d (by omega);rw[vF (by omega),List.foldl_cons,show 8-(d+1)+1=8-d by omega,show 56-8*(8-(d+1))=8*d by omega];have e:jx ((n-254)/2^(8*(d+1))) (w8 ((n-254).fdiv (2^(8*d))))=(n-254)/2^(8*d):=by
   have hp:(0:Int)<2^(8*d):=Int.pow_pos (by decide);rw[Int.fdiv_eq_ediv_of_nonneg _ (by omega),z8];have hq:(n-254)/2^(8*(d+1))=((n-254)/2^(8*d))/256:=by
    rw[Int.ediv_ediv_of_nonneg (by omega),show 8*(d+1)=8*d+8 by omega,Int.pow_add];rfl
   have hle:(n-254)/2^(8*d)≤n-254:=Int.ediv_le_self _ (by omega);have hge:0≤(n-254)/2^(8*d):=Int.ediv_nonneg (by omega) (by omega);rw[hq];generalize(n-254)/2^(8*d)=q at*;rw[IB (by omega) (by omega) (by omega) (by omega)];omega
  rw[e];exact ih
theorem Pk{n most:Int}{r:List Int}(h0:0≤n)(h1:n≤most)(h2:n≤9007199254740991):rN most (jq n++r)=(0,n,(jq n).length):=by
 unfold jq;by_cases h:n<255
 ·rw[if_pos h,z8];show(if n%256=255 then _ else if n%256>most then _ else _)=_;rw[show n%256=n by omega,if_neg (by omega),if_neg (by omega)];rfl
 ·rw[if_neg h];have hl:=DF n;have hv:ki (CA n 0)=n-254:=by
   have:=Em (n:=n) (by omega) h2 8 (Nat.le_refl _);rw[show(n-254)/2^(8*8)=0 from Int.ediv_eq_zero_of_lt (by omega) (by omega)] at this;exact this
  have ht:(CA n 0++r).take 8=CA n 0:=by rw[←hl,List.take_left'];rfl
  rw[List.cons_append];unfold rN;dsimp only;rw[if_pos rfl,ht,hv,if_neg (by simp[hl]),if_neg (by omega),if_neg (by omega)];simp[hl];omega
theorem mW{n most:Int}{r:List Int}(h0:0≤n)(h1:n≤most)(h2:n≤9007199254740991):aQ most (jq n++r,0)=(n,r,0):=by
 unfold aQ;rw[if_neg (by simp),Pk h0 h1 h2,if_neg (by simp),List.drop_left'];rfl
def Sz(n:Int):Prop:=0≤n∧n≤9007199254740991
theorem tI(n:Int)(l:List Int):dn (n::l)=jq n++dn l:=List.flatMap_cons ..
theorem sJ(n:Int):dn [n]=jq n:=by rw[tI];simp[dn]
theorem Bu{l r:List Int}(hl:∀n∈l,Sz n):∀j,j≤l.length→kg j (dn l++r,0)=(l.take j,dn (l.drop j)++r,0)
 |0,_=>by simp[kg]
 |j+1,hj=>by
  have ih:=Bu (r:=r) hl j (by omega);have hlt:j<l.length:=by omega
  have hn:=hl _ (List.getElem_mem hlt);unfold kg;rw[ih,List.drop_eq_getElem_cons hlt,tI,List.append_assoc,mW hn.1 hn.2 hn.2,dz hlt]
theorem FZ(s:List UInt8):qU (xy s)=s:=by
 simp[qU,xy,Function.comp_def]
theorem Fw{s:List UInt8}{r:List Int}(h:s.length≤16):gQ 16 (Eh s++r,0)=(s,r,0):=by
 have hn:aQ 16 (Eh s++r,0)=((s.length:Int),xy s++r,0):=by
  rw[Eh,sJ,List.append_assoc,mW (by omega) (by omega) (by omega)]
 have hl:=pJ s;unfold gQ;rw[hn];rw[if_neg (by simp),if_neg (by simp[hl];omega)];simp only[Int.toNat_natCast];rw[List.take_left' hl,List.drop_left' hl,FZ]
structure YF(o:nq):Prop where
 k:Sz o.k
 n:Sz o.n
 s:o.s.length≤16
theorem Pa{o:nq}{r:List Int}(h:YF o):wU (I6 o++r,0)=(o,r,0):=by
 have h1:aQ MX (I6 o++r,0)=(o.k,jq o.n++(Eh o.s++r),0):=by
  rw[I6,tI,sJ,List.append_assoc,List.append_assoc,mW h.k.1 h.k.2 h.k.2]
 have h2:aQ MX (jq o.n++(Eh o.s++r),0)=(o.n,Eh o.s++r,0):=mW h.n.1 h.n.2 h.n.2;unfold wU;rw[h1];simp only;rw[h2];simp only;rw[Fw h.s]
theorem Fb(o:nq)(l:List nq):jo (o::l)=I6 o++jo l:=List.flatMap_cons ..
theorem Bk{l:List nq}{r:List Int}(hl:∀o∈l,YF o):∀j,j≤l.length→dW j (jo l++r,0)=(l.take j,jo (l.drop j)++r,0)
 |0,_=>by simp[dW]
 |j+1,hj=>by
  have ih:=Bk (r:=r) hl j (by omega);have hlt:j<l.length:=by omega
  have ho:=hl _ (List.getElem_mem hlt);unfold dW;rw[ih,List.drop_eq_getElem_cons hlt,Fb,List.append_assoc,Pa ho,dz hlt]
structure Qs(x:bu):Prop where
 n:∀n∈ie x,Sz n
 l:x.ops.length≤32
 o:∀o∈x.ops,YF o
 k:x.kk=cR x.ops.length
theorem Gn{x:bu}(h:Qs x):mu (iI x)=(x,0):=by
 have h5:kg 5 (iI x,0)=(ie x,jq (x.ops.length:Int)++jo x.ops,0):=by
  have:=Bu (r:=jq (x.ops.length:Int)++jo x.ops) h.n 5 (Nat.le_refl _);rw[iI,sJ,List.append_assoc,this];simp[ie,dn]
 have hl:=h.l;have hm:dP (iI x)=((x.ops.length:Int),jo x.ops,0):=by
  unfold dP;rw[h5,mW (by omega) (by omega) (by omega)]
 have hf:vp (iI x)=(x.ops,[],0):=by
  unfold vp;rw[hm];have:=Bk (r:=[]) h.o x.ops.length (Nat.le_refl _);simp only[Int.toNat_natCast];rw[List.append_nil] at this;rw[this];simp[jo]
 have he:fh (iI x)=0:=by
  unfold fh;rw[hf];rfl
 unfold mu wm I5;rw[he,if_pos rfl,if_pos rfl,h5,hf,←h.k];rfl
theorem xJ(x:bu)(l:List bu):jm (x::l)=jq ((iI x).length:Int)++(iI x++jm l):=by
 rw[jm,List.flatMap_cons,sJ,List.append_assoc];rfl
theorem Bo:∀(m:Nat) (l:List bu) (A:List (bu×Int)),(∀x∈l,Qs x∧(iI x).length≤4096)→(jm l).length≤m→mY m (jm l) A=(A++l.map fun x=>(x,0),0)
 |m,[],A,_,_=>by cases m<;>simp[mY,jm]
 |0,x::l,A,h,hm=>by
  rw[xJ] at hm;have:1≤(jq ((iI x).length:Int)).length:=by unfold jq;split<;>simp
  simp only[List.length_append] at hm;omega
 |m+1,x::l,A,h,hm=>by
  obtain⟨hc,hl⟩:=h x (by simp);have ih:=Bo m l (A++[(x,0)]) (fun y hy=>h y (by simp[hy]));have h1:1≤(jq ((iI x).length:Int)).length:=by unfold jq;split<;>simp
  rw[xJ] at hm⊢;have hn:aQ 4096 (jq ((iI x).length:Int)++(iI x++jm l),0)=(((iI x).length:Int),iI x++jm l,0):=mW (by omega) (by omega) (by omega);simp only[List.length_append] at hm;unfold mY;rw[if_neg (fun hh=>by have:=congrArg List.length hh;simp only[List.length_append,List.length_nil] at this;omega),hn,if_neg (by simp),if_neg (by simp;omega)];simp only[Int.toNat_natCast];rw[List.take_left',List.drop_left',Gn hc,ih (by omega)]
  ·simp
  ·rfl
  ·rfl
theorem Ki{l:List bu}(h:∀x∈l,Qs x∧(iI x).length≤4096):par (jm l)=(l.map fun x=>(x,0),0):=by
 have:=Bo (jm l).length l [] h (Nat.le_refl _)
 rwa [List.nil_append] at this
theorem ES(l:List bu):fe (l.map fun x=>(x,0))=l:=by
 rw[fe,List.filter_eq_self.2 (by intro x hx;obtain⟨y,_,rfl⟩:=List.mem_map.1 hx;rfl),List.map_map];simp[Function.comp_def]
theorem s7(n:Int):Sz (sV n)∧cr (sV n)=false:=by
 have h1:0≤sV n:=Int.emod_nonneg _ (by decide);have h2:sV n<9007199254740991:=Int.emod_lt_of_pos _ (by decide);refine⟨⟨h1,by omega⟩,?_⟩;simp only[cr,Bool.or_eq_false_iff,decide_eq_false_iff_not];omega
theorem PO(x:bu):Qs (FM x)∧Good (FM x):=by
 have hl:(FM x).ops.length≤32:=by
  show(FL (x.ops.take 32)).length≤32;rw[FL,List.length_map,List.length_take];omega
 have ho:∀o∈(FM x).ops,∃o1,o=wo o1:=by
  intro o ho;obtain⟨o1,_,rfl⟩:=List.mem_map.1 (show o∈(x.ops.take 32).map wo from ho);exact⟨o1,rfl⟩
 have hn:∀n∈ie (FM x),∃m,n=sV m:=by
  intro n hn;simp only[ie,FM,List.mem_cons,List.not_mem_nil,or_false] at hn;rcases hn with rfl|rfl|rfl|rfl|rfl<;>exact⟨_,rfl⟩
 have hs:∀s:List UInt8,(s.take 16).length≤16:=by intro s;rw[List.length_take];omega
 refine⟨⟨?_,hl,?_,rfl⟩,⟨?_,hl,?_⟩⟩
 ·intro n h;obtain⟨m,rfl⟩:=hn n h;exact(s7 m).1
 ·intro o h;obtain⟨o1,rfl⟩:=ho o h;exact⟨(s7 _).1,(s7 _).1,hs _⟩
 ·intro n h;obtain⟨m,rfl⟩:=hn n h;exact(s7 m).2
 ·intro o h;obtain⟨o1,rfl⟩:=ho o h;exact⟨(s7 _).2,(s7 _).2,hs _⟩
theorem yu:∀{l:List nq},(∀o∈l,rL o=0)→sG l=0
 |[],_=>rfl
 |o::l,h=>by
  rw[sG,if_pos (h o (by simp))];exact yu (fun p hp=>h p (by simp[hp]))
theorem Ay{x:bu}(h:Good x):m9 x=0:=by
 have hn:=h.hn;simp only[ie,List.mem_cons,List.not_mem_nil,or_false,forall_eq_or_imp,forall_eq] at hn;obtain⟨h1,h2,h3,h4,h5⟩:=hn;unfold m9;rw[h1,h2,h3,h4,h5,if_neg (by decide),if_neg (by have:=h.hl;omega)];refine yu fun o ho=>?_;obtain⟨a,b,c⟩:=h.ho o ho;unfold rL;rw[a,b,if_neg (by decide),if_neg (by omega)]
theorem tc:∀{l:List bu},(∀x∈l,m9 x=0)→mQ l=0
 |[],_=>rfl
 |x::l,h=>by
  rw[mQ,if_pos (h x (by simp))];exact tc (fun y hy=>h y (by simp[hy]))
theorem sD{l m:List Int}(h:okB l)(h':okB m):okB (l++m):=by
 intro n hn;rcases List.mem_append.1 hn with hn|hn
 ·exact h n hn
 ·exact h' n hn
theorem Ka(n:Int):okB (jq n):=by
 unfold jq;split
 ·intro m hm;simp only[List.mem_cons,List.not_mem_nil,or_false] at hm;subst hm;rw[z8];omega
 ·intro m hm;rcases List.mem_cons.1 hm with rfl|hm
  ·omega
  ·obtain⟨i,_,rfl⟩:=List.mem_map.1 hm;rw[z8];omega
theorem vT{α:Type}{f:α→List Int}{l:List α}(h:∀x∈l,okB (f x)):okB (l.flatMap f):=by
 intro n hn;obtain⟨x,hx,hn⟩:=List.mem_flatMap.1 hn;exact h x hx n hn
theorem o8(l:List Int):okB (dn l):=vT fun n _=>Ka n
theorem Kb(s:List UInt8):okB (xy s):=by
 intro n hn;obtain⟨b,_,rfl⟩:=List.mem_map.1 hn;have:=b.toNat_lt;omega
theorem J9(x:bu):okB (iI x):=sD (sD (o8 _) (o8 _)) (vT fun o _=>sD (o8 _) (sD (o8 _) (Kb _)))
theorem J8(l:List bu):okB (jm l):=vT fun x _=>sD (o8 _) (J9 x)
end Ir
end Go.Proofs.YtmnolnoeibhjgaaGreat
