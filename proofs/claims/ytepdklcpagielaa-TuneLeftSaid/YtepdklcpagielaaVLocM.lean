/-
  Local: partitions made to be such.
-/
import Derived.Test.YtepdklcpagielaaVDel
import Derived.Test.YtepdklcpagielaaZA
set_option maxRecDepth 100000
set_option linter.unusedSimpArgs false
set_option linter.unusedVariables false
namespace Go.Proofs.Ytepdklcpagielaa
open Go Ads
namespace Ir
def Ja(t:Tk):Int:=1+t.p%48
def I9(t:Tk):Int:=1+t.d%Ja t
def vp(t:Tk):Int:=1+t.w%I9 t
def Rl(t:Tk):Int:=t.b%(vp t+1)
def BJ(t:Tk):Int:=t.c%5
def zf(cn:Int)(t:Tk):Int:=1+t.e%min cn (vp t)
def NA(cn:Int)(t:Tk):Int:=1+t.f%(vp t/zf cn t)
def n9(cn:Int)(t:Tk):Tk:=⟨Ja t,I9 t,vp t,0,Rl t,BJ t,if BJ t>0 then zf cn t else 0,if BJ t>0 then NA cn t else 0⟩
def Mm(cn:Int)(l:List Tk):List Tk:=(l.take 4).map (n9 cn)
def ND(x:Pt):Int:=1+x.cJ%10
def Ro(x:Pt):Int:=1+x.cn%ND x
def Zp(x:Pt):Pt:=⟨ND x,Ro x,gv (Mm (Ro x) x.ts).length,Mm (Ro x) x.ts⟩
def PN(l:List Pt)(m:Nat):List Pt:=(l.take m).map Zp
theorem WT(cn:Int)(t:Tk)(hb:1≤cn):(1≤Ja t∧Ja t≤64)∧(1≤I9 t∧I9 t≤Ja t)∧(1≤vp t∧vp t≤I9 t)∧(0≤Rl t∧Rl t≤vp t)∧(0≤BJ t∧BJ t≤4)∧(1≤zf cn t∧zf cn t≤cn∧zf cn t≤vp t)∧(1≤NA cn t∧NA cn t≤vp t/zf cn t)∧1≤vp t/zf cn t:=by
 have a1:=Int.emod_nonneg t.p (show(48:Int)≠0 by omega);have a2:=Int.emod_lt_of_pos t.p (show(0:Int)<48 by omega);have hp:1≤Ja t∧Ja t≤64:=by unfold Ja;omega
 have b1:=Int.emod_nonneg t.d (show Ja t≠0 by omega);have b2:=Int.emod_lt_of_pos t.d (show 0<Ja t by omega);have hd:1≤I9 t∧I9 t≤Ja t:=by unfold I9;omega
 have c1:=Int.emod_nonneg t.w (show I9 t≠0 by omega);have c2:=Int.emod_lt_of_pos t.w (show 0<I9 t by omega);have hw:1≤vp t∧vp t≤I9 t:=by unfold vp;omega
 have d1:=Int.emod_nonneg t.b (show vp t+1≠0 by omega);have d2:=Int.emod_lt_of_pos t.b (show 0<vp t+1 by omega);have hlo:0≤Rl t∧Rl t≤vp t:=by unfold Rl;omega
 have e1:=Int.emod_nonneg t.c (show(5:Int)≠0 by omega);have e2:=Int.emod_lt_of_pos t.c (show(0:Int)<5 by omega);have hc:0≤BJ t∧BJ t≤4:=by unfold BJ;omega
 have f1:=Int.emod_nonneg t.e (show min cn (vp t)≠0 by omega);have f2:=Int.emod_lt_of_pos t.e (show 0<min cn (vp t) by omega);have he:1≤zf cn t∧zf cn t≤cn∧zf cn t≤vp t:=by unfold zf;omega
 have hq:1≤vp t/zf cn t:=by
  rw[Int.le_ediv_iff_mul_le (by omega)];omega
 have g1:=Int.emod_nonneg t.f (show vp t/zf cn t≠0 by omega);have g2:=Int.emod_lt_of_pos t.f (show 0<vp t/zf cn t by omega);have hf:1≤NA cn t∧NA cn t≤vp t/zf cn t:=by unfold NA;omega
 exact⟨hp,hd,hw,hlo,hc,he,hf,hq⟩
theorem WU(cn:Int)(t:Tk)(hb:1≤cn):fc (n9 cn t)=true∧vn (n9 cn t) cn=true:=by
 obtain⟨hp,hd,hw,hlo,hc,he,hf,hq⟩:=WT cn t hb;constructor
 ·refine decide_eq_true ?_;show 1≤vp t∧vp t≤I9 t∧I9 t≤Ja t∧Ja t≤64;omega
 ·refine decide_eq_true ?_;show 0≤Rl t∧Rl t≤vp t∧0≤BJ t∧BJ t≤4∧((BJ t=0∧(if BJ t>0 then zf cn t else 0)=0∧(if BJ t>0 then NA cn t else 0)=0)∨(BJ t≠0∧1≤(if BJ t>0 then zf cn t else 0)∧(if BJ t>0 then zf cn t else 0)≤cn∧1≤(if BJ t>0 then NA cn t else 0)∧(if BJ t>0 then zf cn t else 0)*(if BJ t>0 then NA cn t else 0)≤vp t));refine⟨hlo.1,hlo.2,hc.1,hc.2,?_⟩;by_cases h0:BJ t>0
  ·rw[if_pos h0,if_pos h0];refine .inr ⟨by omega,he.1,he.2.1,hf.1,?_⟩;have h1:zf cn t*NA cn t≤zf cn t*(vp t/zf cn t):=Int.mul_le_mul_of_nonneg_left hf.2 (by omega);have h2:=Int.mul_ediv_self_le (x:=vp t) (k:=zf cn t) (by omega);omega
  ·rw[if_neg h0,if_neg h0];exact .inl ⟨by omega,rfl,rfl⟩
theorem W8(x:Pt):1≤ND x∧ND x≤64∧1≤Ro x∧Ro x≤ND x:=by
 have a1:=Int.emod_nonneg x.cJ (show(10:Int)≠0 by omega);have a2:=Int.emod_lt_of_pos x.cJ (show(0:Int)<10 by omega);have hp:1≤ND x∧ND x≤64:=by unfold ND;omega
 have b1:=Int.emod_nonneg x.cn (show ND x≠0 by omega);have b2:=Int.emod_lt_of_pos x.cn (show 0<ND x by omega);unfold Ro;omega
theorem Tm(x:Pt):mG (Zp x)=true:=by
 have hin:=W8 x;have ht:∀t,t∈Mm (Ro x) x.ts→fc t=true∧vn t (Ro x)=true:=by
  intro t ht;obtain⟨u,-,rfl⟩:=List.mem_map.1 ht;exact WU _ _ hin.2.2.1
 simp only[mG,Zp,Bool.and_eq_true];refine⟨decide_eq_true hin,?_,?_⟩
 ·rw[dX,Bool.and_eq_true,List.all_eq_true];refine⟨fun t h=>(ht t h).1,decide_eq_true ?_⟩;simp[Mm];omega
 ·rw[List.all_eq_true];exact fun t h=>(ht t h).2
theorem Zq(l:List Pt)(m:Nat)(hm:m≤4):bG (PN l m)=0:=by
 rw[bG,if_pos];refine⟨by simp[PN];omega,?_⟩;rw[List.all_eq_true];intro x hx;obtain⟨y,-,rfl⟩:=List.mem_map.1 hx;exact Tm y
theorem Tn(l:List Pt)(m:Nat)(hm:m≤4):Small (PN l m):=by
 refine⟨by simp[PN];omega,?_⟩;intro x hx;obtain⟨y,-,rfl⟩:=List.mem_map.1 hx;simp[Zp,Mm];omega
theorem iX(l:List Tk):aW 8 (dI l)=true:=ew (enc:=tk) (fun _=>rfl) l
theorem fE(l:List Pt):aW 3 (pts l)=true:=ew (enc:=pt) (fun _=>rfl) l
theorem M7(l:List Tk)(j:Nat):(dI l).take j=dI (l.take j):=by simp[dI]
theorem vA(l:List Pt)(j:Nat):(pts l).take j=pts (l.take j):=by simp[pts]
def F9(k:Nat)(l:List Pt)(m i:Nat)(V:AV)(j:Nat):List (Nat×AV):=[(0,.fz k (pts l)),(1,.int .i64 (m:Nat)),(5,V),(6,.int .i64 (i:Nat)),(7,.ptr 1 0),(8,.int .i64 (j:Nat))]
end Ir
end Go.Proofs.Ytepdklcpagielaa
