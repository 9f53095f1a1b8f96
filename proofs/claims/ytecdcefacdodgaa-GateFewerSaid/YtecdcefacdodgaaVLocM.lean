/-
  Local: partitions made to be such.
-/
import Derived.Test.YtecdcefacdodgaaVDel
import Derived.Test.YtecdcefacdodgaaZA
set_option maxRecDepth 100000
set_option linter.unusedSimpArgs false
set_option linter.unusedVariables false
namespace Go.Proofs.Ytecdcefacdodgaa
open Go Ads
namespace Ir
def uz(t:Tk):Int:=1+t.p%48
def uy(t:Tk):Int:=1+t.d%uz t
def nw(t:Tk):Int:=1+t.w%uy t
def NI(t:Tk):Int:=t.b%(nw t+1)
def yT(t:Tk):Int:=t.c%5
def wg(cE:Int)(t:Tk):Int:=1+t.e%min cE (nw t)
def KD(cE:Int)(t:Tk):Int:=1+t.f%(nw t/wg cE t)
def n9(cE:Int)(t:Tk):Tk:=⟨uz t,uy t,nw t,0,NI t,yT t,if yT t>0 then wg cE t else 0,if yT t>0 then KD cE t else 0⟩
def Js(cE:Int)(l:List Tk):List Tk:=(l.take 4).map (n9 cE)
def Al(x:Pt):Int:=1+x.bV%10
def CO(x:Pt):Int:=1+x.cE%Al x
def TO(x:Pt):Pt:=⟨Al x,CO x,eM (Js (CO x) x.ts).length,Js (CO x) x.ts⟩
def MC(l:List Pt)(m:Nat):List Pt:=(l.take m).map TO
theorem Jn(cE:Int)(t:Tk)(hb:1≤cE):(1≤uz t∧uz t≤64)∧(1≤uy t∧uy t≤uz t)∧(1≤nw t∧nw t≤uy t)∧(0≤NI t∧NI t≤nw t)∧(0≤yT t∧yT t≤4)∧(1≤wg cE t∧wg cE t≤cE∧wg cE t≤nw t)∧(1≤KD cE t∧KD cE t≤nw t/wg cE t)∧1≤nw t/wg cE t:=by
 have a1:=Int.emod_nonneg t.p (show(48:Int)≠0 by omega);have a2:=Int.emod_lt_of_pos t.p (show(0:Int)<48 by omega);have hp:1≤uz t∧uz t≤64:=by unfold uz;omega
 have b1:=Int.emod_nonneg t.d (show uz t≠0 by omega);have b2:=Int.emod_lt_of_pos t.d (show 0<uz t by omega);have hd:1≤uy t∧uy t≤uz t:=by unfold uy;omega
 have c1:=Int.emod_nonneg t.w (show uy t≠0 by omega);have c2:=Int.emod_lt_of_pos t.w (show 0<uy t by omega);have hw:1≤nw t∧nw t≤uy t:=by unfold nw;omega
 have d1:=Int.emod_nonneg t.b (show nw t+1≠0 by omega);have d2:=Int.emod_lt_of_pos t.b (show 0<nw t+1 by omega);have hlo:0≤NI t∧NI t≤nw t:=by unfold NI;omega
 have e1:=Int.emod_nonneg t.c (show(5:Int)≠0 by omega);have e2:=Int.emod_lt_of_pos t.c (show(0:Int)<5 by omega);have hc:0≤yT t∧yT t≤4:=by unfold yT;omega
 have f1:=Int.emod_nonneg t.e (show min cE (nw t)≠0 by omega);have f2:=Int.emod_lt_of_pos t.e (show 0<min cE (nw t) by omega);have he:1≤wg cE t∧wg cE t≤cE∧wg cE t≤nw t:=by unfold wg;omega
 have hq:1≤nw t/wg cE t:=by
  rw[Int.le_ediv_iff_mul_le (by omega)];omega
 have g1:=Int.emod_nonneg t.f (show nw t/wg cE t≠0 by omega);have g2:=Int.emod_lt_of_pos t.f (show 0<nw t/wg cE t by omega);have hf:1≤KD cE t∧KD cE t≤nw t/wg cE t:=by unfold KD;omega
 exact⟨hp,hd,hw,hlo,hc,he,hf,hq⟩
theorem SB(cE:Int)(t:Tk)(hb:1≤cE):dw (n9 cE t)=true∧qB (n9 cE t) cE=true:=by
 obtain⟨hp,hd,hw,hlo,hc,he,hf,hq⟩:=Jn cE t hb;constructor
 ·refine decide_eq_true ?_;show 1≤nw t∧nw t≤uy t∧uy t≤uz t∧uz t≤64;omega
 ·refine decide_eq_true ?_;show 0≤NI t∧NI t≤nw t∧0≤yT t∧yT t≤4∧((yT t=0∧(if yT t>0 then wg cE t else 0)=0∧(if yT t>0 then KD cE t else 0)=0)∨(yT t≠0∧1≤(if yT t>0 then wg cE t else 0)∧(if yT t>0 then wg cE t else 0)≤cE∧1≤(if yT t>0 then KD cE t else 0)∧(if yT t>0 then wg cE t else 0)*(if yT t>0 then KD cE t else 0)≤nw t));refine⟨hlo.1,hlo.2,hc.1,hc.2,?_⟩;by_cases h0:yT t>0
  ·rw[if_pos h0,if_pos h0];refine .inr ⟨by omega,he.1,he.2.1,hf.1,?_⟩;have h1:wg cE t*KD cE t≤wg cE t*(nw t/wg cE t):=Int.mul_le_mul_of_nonneg_left hf.2 (by omega);have h2:=Int.mul_ediv_self_le (x:=nw t) (k:=wg cE t) (by omega);omega
  ·rw[if_neg h0,if_neg h0];exact .inl ⟨by omega,rfl,rfl⟩
theorem JH(x:Pt):1≤Al x∧Al x≤64∧1≤CO x∧CO x≤Al x:=by
 have a1:=Int.emod_nonneg x.bV (show(10:Int)≠0 by omega);have a2:=Int.emod_lt_of_pos x.bV (show(0:Int)<10 by omega);have hp:1≤Al x∧Al x≤64:=by unfold Al;omega
 have b1:=Int.emod_nonneg x.cE (show Al x≠0 by omega);have b2:=Int.emod_lt_of_pos x.cE (show 0<Al x by omega);unfold CO;omega
theorem PJ(x:Pt):gN (TO x)=true:=by
 have hin:=JH x;have ht:∀t,t∈Js (CO x) x.ts→dw t=true∧qB t (CO x)=true:=by
  intro t ht;obtain⟨u,-,rfl⟩:=List.mem_map.1 ht;exact SB _ _ hin.2.2.1
 simp only[gN,TO,Bool.and_eq_true];refine⟨decide_eq_true hin,?_,?_⟩
 ·rw[cL,Bool.and_eq_true,List.all_eq_true];refine⟨fun t h=>(ht t h).1,decide_eq_true ?_⟩;simp[Js];omega
 ·rw[List.all_eq_true];exact fun t h=>(ht t h).2
theorem TP(l:List Pt)(m:Nat)(hm:m≤4):aB (MC l m)=0:=by
 rw[aB,if_pos];refine⟨by simp[MC];omega,?_⟩;rw[List.all_eq_true];intro x hx;obtain⟨y,-,rfl⟩:=List.mem_map.1 hx;exact PJ y
theorem PK(l:List Pt)(m:Nat)(hm:m≤4):Small (MC l m):=by
 refine⟨by simp[MC];omega,?_⟩;intro x hx;obtain⟨y,-,rfl⟩:=List.mem_map.1 hx;simp[TO,Js];omega
theorem Cl(l:List Tk):aO 8 (fQ l)=true:=iy (enc:=tk) (fun _=>rfl) l
theorem sM(l:List Pt):aO 3 (pts l)=true:=iy (enc:=pt) (fun _=>rfl) l
theorem Ke(l:List Tk)(j:Nat):(fQ l).take j=fQ (l.take j):=by simp[fQ]
theorem JG(l:List Pt)(j:Nat):(pts l).take j=pts (l.take j):=by simp[pts]
def F9(k:Nat)(l:List Pt)(m i:Nat)(V:AV)(j:Nat):List (Nat×AV):=[(0,.fz k (pts l)),(1,.int .i64 (m:Nat)),(5,V),(6,.int .i64 (i:Nat)),(7,.ptr 1 0),(8,.int .i64 (j:Nat))]
end Ir
end Go.Proofs.Ytecdcefacdodgaa
