/-
  Tape: the statement TapeBack.
-/
import Derived.Test.YtmnolnoeibhjgaaGreatVTpR
set_option maxRecDepth 100000
set_option linter.unusedSimpArgs false
set_option linter.unusedVariables false
namespace Go.Proofs.YtmnolnoeibhjgaaGreat
open Go Ads
namespace Ir
theorem HW{I:Nat}{L X:List Int}{v:AV}{h:Heap}(hs:oH h I L v X)(hl:X.length≤100000){Q:AV→Heap→Prop}(hQ:∀h',Fr h h' []→Q (.dO [.fz (cR (par X).1.length) (fK (par X).1),.int .i64 (par X).2]) h'):VD fs ms 14 [v] h Q:=by
 refine me (D0 hs hl fun w h' gr fr=>?_);obtain⟨bs,hf,hb⟩:=gr.BX (m7 _) (uE _);rw[eo] at hf;exact⟨bs,_,.PA (.cons hf (.cons (.clean rfl) .nil)),hQ _ (gY hb fr)⟩
theorem JG{k:Nat}{A:List (bu×Int)}(hl:A.length≤100000)(hA:∀x∈A,mH x){h:Heap}{Q:AV→Heap→Prop}(hQ:∀h',Fr h h' []→Q (.fz (cR (fe A).length) (dA (fe A))) h'):VD fs ms 17 [.fz k (fK A)] h Q:=by
 refine me (N1 hl hA fun w h' gr fr=>?_);obtain⟨bs,hf,hb⟩:=gr.BX (iX _) (pT _);rw[cD] at hf;exact⟨bs,_,hf,hQ _ (gY hb fr)⟩
theorem Ny{k1 k2 k3:Nat}{W:List bu}(hW:∀x∈W,Qs x∧Good x)(hl:W.length≤40){B:Nat}{Q:AX→Env→Heap→Prop}{h:Heap}(hQ:∀e',Q (.exit 0) e' h):
  ∀(m j:Nat) (env:Env),W.length-j=m→j≤W.length→bQ env [(0,.fz k1 (dA W)),(5,.fz k2 (fK (W.map fun x=>(x,0)))),(7,.fz k3 (dA W)),(8,.int .i64 ((j:Nat):Int))]→VC fs ms B false (.loop fH) env h Q:=by
 intro m;induction m with
 |zero=>
  intro j env hm hj bg;have hjl:j=W.length:=by omega
  subst hjl;refine ay 5 _ bg ?_;refine aH (aa (z:=true) ?_);conv=>whnf
  refine k7 (by simp[cD]) (fun hc=>?_)
  (try rw[hc])
  conv=>whnf
  exact hQ _
 |succ m ih=>
  intro j env hm hj bg;have hlt:j<W.length:=by omega
  have hi1:=nI (k:=k1) hlt;have hi3:=nI (k:=k3) hlt;have hi2:=p7 (k:=k2) (l:=W.map fun x=>(x,0)) (j:=j) (by simpa using hlt);rw[List.getElem_map] at hi2;obtain⟨JO,FD⟩:=hW _ (List.getElem_mem hlt);have ju:W[j].ops.length<2^62:=by have:=JO.l;omega
  generalize hX:W[j]=x at*;refine ay 5 _ bg ?_;refine aH (an true ?_);conv=>whnf
  refine ny (by simp[cD];omega) (fun hc=>?_)
  (try rw[hc])
  conv=>whnf
  refine aJ (aR (an true ?_));conv=>whnf
  refine⟨_,hi2,?_⟩;conv=>whnf
  refine⟨.int .i64 0,rfl,?_⟩;conv=>whnf
  refine⟨_,hi2,?_⟩;conv=>whnf
  refine⟨dG x,rfl,?_⟩;conv=>whnf
  refine⟨_,hi1,?_⟩;conv=>whnf
  refine⟨dG x,rfl,?_⟩;conv=>whnf
  refine cC (Im x ju) ?_;conv=>whnf
  refine⟨_,hi3,?_⟩;conv=>whnf
  refine⟨dG x,rfl,?_⟩;conv=>whnf
  refine⟨_,hi1,?_⟩;conv=>whnf
  refine⟨dG x,rfl,?_⟩;conv=>whnf
  refine cC (Im x ju) ?_;conv=>whnf
  refine⟨_,hi1,?_⟩;conv=>whnf
  refine⟨dG x,rfl,?_⟩;conv=>whnf
  refine cC (v:=.int .i64 0) (by have:=F8 x ju;rw[Ay FD] at this;exact this) ?_;conv=>whnf
  refine aa (z:=true) ?_;conv=>whnf
  refine aa (z:=true) ?_;conv=>whnf
  refine ih (j+1) _ (by omega) (by omega) ⟨rfl,rfl,rfl,bC (by omega),trivial⟩
theorem Df(hw:PC fs ms 12 [] (.bool true))(k:Nat)(l:List bu)(hl:l.length<2^62)(nH:∀x∈l,x.ops.length<2^62):PC fs ms 5 [.fz k (dA l)] (.bool true):=by
 refine mb (by simp[e9,AV.cl,pT]) rfl ?_;refine bY (af:=C5) rfl (Nat.le_of_ble_eq_true rfl) ?_;generalize hQ:(fun(v:AV) (_:Heap)=>v=.bool true)=Q;have N8:∀x∈xC l,Qs x∧Good x:=by
  intro x hx;obtain⟨y,_,rfl⟩:=List.mem_map.1 hx;exact PO y
 have K5:(xC l).length≤40:=by rw[Ep];omega
 have Oi:∀x∈xC l,m9 x=0:=fun x hx=>Ay (N8 x hx).2;have hWo:∀x∈xC l,x.ops.length<2^62:=fun x hx=>by have:=(N8 x hx).1.l;omega
 have IZ:=rU Oi;conv=>whnf
 refine an true ?_;conv=>whnf
 refine an true ?_;conv=>whnf
 refine PR hl nH fun h1 pZ=>?_;generalize hWW:xC l=W at*;conv=>whnf
 refine an true ?_;conv=>whnf
 refine Dt _ W K5 hWo fun v h2 TK iu=>?_;rw[tc Oi];rw[show Ce W=jm W from if_pos (tc Oi)] at TK;conv=>whnf
 obtain⟨I,hI,sv,hg⟩:=TK.sv;refine an true ?_;conv=>whnf
 refine HW (I:=I) (L:=jm W) ⟨sv,hg,J8 W,by omega⟩ (by omega) fun h3 qY=>?_;rw[Ki (fun x hx=>⟨(N8 x hx).1,by have:=r9 (N8 x hx).2;omega⟩)];conv=>whnf
 refine an true ?_;conv=>whnf
 refine JG (by simpa using Nat.le_trans K5 (by omega)) (fun x hx=>by
  obtain⟨y,hy,rfl⟩:=List.mem_map.1 hx;exact⟨(N8 y hy).1.k,by have:=(N8 y hy).1.l;show y.ops.length≤_;omega⟩) fun h4 uz=>?_
 rw[ES];conv=>whnf
 obtain⟨E,hE⟩:∃E,E=W.map fun x=>(x,(0:Int)):=⟨_,rfl⟩;have hEl:E.length=W.length:=by rw[hE,List.length_map]
 show VC fs ms _ _ _ _ _ _;refine ay 5 [(0,.fz (cR W.length) (dA W)),(4,.int .i64 0),(5,.fz (cR E.length) (fK E)),(6,.int .i64 0),(7,.fz (cR W.length) (dA W))] ⟨rfl,rfl,by rw[hE];rfl,rfl,rfl,trivial⟩ ?_;refine aJ (an true ?_);conv=>whnf
 refine k7 (by rw[eo,cD,hEl];exact de _) (fun hc=>?_)
 (try rw[hc])
 conv=>whnf
 refine cj ?_;conv=>whnf
 refine k7 (by exact de _) (fun hc=>?_)
 (try rw[hc])
 conv=>whnf
 refine aa (z:=true) ?_;conv=>whnf
 refine aJ (an true ?_);conv=>whnf
 refine aR ?_;refine Ny (k1:=cR W.length) (k2:=cR E.length) (k3:=cR W.length) N8 K5 ?_ W.length 0 _ rfl (Nat.zero_le _) ⟨rfl,by rw[←hE];rfl,rfl,rfl,trivial⟩;intro e';show VC fs ms _ false _ _ _ _;refine ay 3 [] trivial (aa (z:=true) ?_);conv=>whnf
 refine cC hw ?_;conv=>whnf
 subst hQ;rfl
end Ir
end Go.Proofs.YtmnolnoeibhjgaaGreat
