/-
  Judge: Find answers as the document does.
-/
import Derived.Test.YtepdklcpagielaaVJg
import Derived.Test.YtepdklcpagielaaVJdW
set_option maxRecDepth 100000
set_option linter.unusedSimpArgs false
set_option linter.unusedVariables false
namespace Go.Proofs.Ytepdklcpagielaa
open Go Ads
namespace Ir
theorem PT(x:Nt):pV (.neq (.cells [0,0,0,0,0,0,2])) [nt x,nt x]=some (.bool false):=by
 simp[pV,nt,Dd,eC,qK]
theorem Hh{k n:Nat}{l:List Nt}(h:n≤l.length):pV (.slice 7 false true false) [.fz k (b8 l),.int .i64 ((n:Nat):Int)]=some (.fz (cV k false n l.length l.length) (b8 (l.take n))):=by
 have hb:bounds (b8 l).length (b8 l).length false true false [.int .i64 ((n:Nat):Int)]=some (0,n,(b8 l).length):=by
  have b1:Nat.ble 0 n=true:=Nat.ble_eq_true_of_le (Nat.zero_le _);have b2:Nat.ble n (b8 l).length=true:=by rw[bU];exact Nat.ble_eq_true_of_le h
  have b3:Nat.ble (b8 l).length (b8 l).length=true:=Nat.ble_eq_true_of_le (Nat.le_refl _);show cond (Nat.ble 0 n&&Nat.ble n (b8 l).length&&Nat.ble (b8 l).length (b8 l).length) _ _=_;rw[b1,b2,b3];rfl
 show lG 7 false true false k (b8 l) [.int .i64 ((n:Nat):Int)]=_;unfold lG;rw[hb];have h0:(Nat.beq 0 (b8 l).length&&Nat.beq k 0&&!Nat.beq 0 0)=false:=by simp
 show cond (Nat.beq 0 (b8 l).length&&Nat.beq k 0&&!Nat.beq 0 0) _ _=_;rw[h0,cond_false,dK,cond_true,bU,List.drop_zero,Nat.sub_zero,b8,b8,List.map_take]
theorem kZ:∀l:List Nt,bx (ai (b8 l))=true
 |[]=>rfl
 |x::l=>by
  show bx ((nt x).cells++ai (b8 l))=true;simp only[nt,AV.cells,List.cons_append,List.nil_append,o8,kZ l];rfl
theorem KG(L:List Pt):(L.map jl).map jl=L.map jl:=by
 rw[List.map_map];rfl
theorem Fits.cp{L:List Pt}{O:List Po}(h:Fits L O):Fits (L.map jl) O:=by
 refine⟨by rw[List.length_map];exact h.parts,fun x hx=>?_,h.EA⟩;obtain⟨y,hy,rfl⟩:=List.mem_map.1 hx;exact h.tasks y hy
theorem S5{k1 k2:Nat}{M:List Nt}(hl:M.length≤17592186044416){h:Heap}{B:Nat}{Q:AX→Env→Heap→Prop}{Y3 Y7:AV}{Y:List AV}
  (hY:Y.length=6)(hQ:∀e',aP e' [(3,Y3),(7,Y7),(9,Y.getD 0 .undef),(10,Y.getD 1 .undef),(11,Y.getD 2 .undef),(12,Y.getD 3 .undef),(13,Y.getD 4 .undef),(14,Y.getD 5 .undef)]→Q (.exit 0) e' h):
  ∀(m j:Nat) (env:Env),M.length-j=m→j≤M.length→aP env [(1,.fz k1 (b8 M)),(3,Y3),(7,Y7),(8,.fz k2 (b8 M)),(9,Y.getD 0 .undef),(10,Y.getD 1 .undef),(11,Y.getD 2 .undef),(12,Y.getD 3 .undef),(13,Y.getD 4 .undef),(14,Y.getD 5 .undef),(15,.int .i64 ((j:Nat):Int))]→
  VC fs ms B false (.loop fX) env h Q:=by
 intro m;induction m using Nat.strongRecOn with
 |ind m ih=>
 intro j env hm hj cH;refine ak 5 _ cH ?_;refine bJ (aj true ?_);conv=>whnf
 rw[bU];refine br (fun hc=>?_) (fun hc=>?_)<;>(try rw[hc])<;>(conv=>whnf)
 ·have hlt:j<M.length:=by have:=of_decide_eq_true hc;omega
  refine aa (z:=true) ?_;conv=>whnf
  refine⟨_,kF hlt,?_⟩;conv=>whnf
  refine⟨nt M[j],rfl,?_⟩;conv=>whnf
  refine⟨_,kF hlt,?_⟩;conv=>whnf
  refine⟨nt M[j],rfl,?_⟩;conv=>whnf
  refine sZ (PT _) ?_;conv=>whnf
  exact ih (M.length-(j+1)) (by omega) (j+1) _ rfl (by omega) ⟨rfl,rfl,rfl,rfl,rfl,rfl,rfl,rfl,rfl,rfl,ay (by omega),trivial⟩
 ·exact hQ _ ⟨rfl,rfl,rfl,rfl,rfl,rfl,rfl,rfl,trivial⟩
theorem vi(k:Nat)(L:List Pt)(ko:Nat)(O:List Po)(kl:Nat)(l:List Nt)(un:Int)(hf:Fits L O)(hk:k=3→L=[])(hl:l.length*64≤140737488355328):
  PC fs ms 4 [cfg k L ko O,.fz kl (b8 l),.int .i64 un] (.bool true):=by
 refine aX (by simp[bL,oK,AV.cl,nG]) rfl ?_;generalize(⟨0,.nil⟩:Heap)=h0;refine bw (af:=C4) rfl (Nat.le_of_ble_eq_true rfl) ?_;generalize hQ:(fun(v:AV) (_:Heap)=>v=.bool true)=Q;have hend:∀h,Q (.bool true) h:=by subst hQ;intro h;rfl
 clear hQ;conv=>whnf
 refine aj true ?_;conv=>whnf
 have g1:(h0.new (.cells (cfg k L ko O).cells true 0)).get h0.next=some (.cells [.fz k (pts L),.fz ko (pos O)] true 0):=an;have n1:h0.next<(h0.new (.cells (cfg k L ko O).cells true 0)).next:=Nat.lt_succ_self _
 generalize h0.new (.cells (cfg k L ko O).cells true 0)=h1 at*;generalize h0.next=p3 at*;have hfz:jo (· ∈[p3]) h1 (.ptr p3 0) (.fp [.fz k (pts L),.fz ko (pos O)] 0):=.ptr' (by simp) g1 (.clean (by simp[bL,AV.cl,bz,fk]));refine dV [p3] (i:=3) rfl hfz ?_;generalize ck [p3] h1=h2;clear g1 n1 hfz;refine ak 4 [(1,.fz kl (b8 l)),(2,.int .i64 un),(3,.fp [.fz k (pts L),.fz ko (pos O)] 0)] ⟨rfl,rfl,rfl,trivial⟩ ?_;obtain⟨n,hn,J2⟩:∃n:Nat,(bif decide ((300:Int)<((l.length:Nat):Int)) then(300:Int) else((l.length:Nat):Int))=((n:Nat):Int)∧n≤l.length:=by
  by_cases h:300<l.length
  ·exact⟨300,by rw[decide_eq_true (by omega)];rfl,by omega⟩
  ·exact⟨l.length,by rw[decide_eq_false (by omega)];rfl,Nat.le_refl _⟩
 refine aj true ?_;conv=>whnf
 rw[bU];rw[hn];refine⟨_,Hh J2,?_⟩;conv=>whnf
 have hM:(l.take n).length≤17592186044416:=by rw[List.length_take];omega
 have aa0:(l.take n).length*64≤140737488355328:=by rw[List.length_take];omega
 generalize l.take n=M at*;generalize cV kl false n l.length l.length=k1 at*;refine az (VC.mono (Q:=fun y e h=>y=.normal∧h=h2∧∃u:Int,aP e [(1,.fz k1 (b8 M)),(2,.int .i64 u),(3,.fp [.fz k (pts L),.fz ko (pos O)] 0)]) ?_ ?_)
 ·refine aa (z:=true) ?_;conv=>whnf
  refine br (fun hc=>?_) (fun hc=>?_)<;>(try rw[hc])<;>(conv=>whnf)
  ·refine⟨.int .i64 (un.tmod 5),rfl,?_⟩;conv=>whnf
   refine br (fun hc=>?_) (fun hc=>?_)<;>(try rw[hc])<;>(conv=>whnf)
   ·refine⟨.int .i64 (un.tmod 600),rfl,?_⟩;conv=>whnf
    exact⟨rfl,rfl,_,rfl,rfl,rfl,trivial⟩
   ·exact⟨rfl,rfl,_,rfl,rfl,rfl,trivial⟩
  ·exact⟨rfl,rfl,_,rfl,rfl,rfl,trivial⟩
 rintro y e h ⟨rfl,rfl,u,he⟩;show VC fs ms _ _ _ _ _ _;refine ak 4 _ he ?_;clear he;refine az (VC.mono (Q:=fun y e h3=>y=.normal∧∃v w p7,GR 3 h.next h3 v (pts (L.map jl))∧GR 6 h.next h3 w (pos O)∧h3.get p7=some (.cells [v,w] true 0)∧aP e [(1,.fz k1 (b8 M)),(2,.int .i64 u),(3,.fp [.fz k (pts L),.fz ko (pos O)] 0),(7,.ptr p7 0)]) ?_ ?_)
 ·refine aa (z:=true) ?_;conv=>whnf
  refine⟨cfg k L ko O,rfl,?_⟩;conv=>whnf
  refine Hg k ko hf (fun h3 v w hv hw iB=>?_);conv=>whnf
  have hfl:bx [v,w]=true:=by
   rcases hv with⟨_,rfl⟩|⟨_,b,_,_,rfl,_⟩<;>rcases hw with⟨_,rfl⟩|⟨_,b2,_,_,rfl,_⟩<;>rfl
  refine aT (cD (n:=2) (v:=.agg [v,w]) an rfl (Nat.le_refl _) hfl) fun h4 e4=>?_;conv=>whnf
  have jY:Fr h3 h4 []:=by rw[e4];exact((Fr.refl h3 []).new (x:=_)).lD (Nat.le_refl _)
  exact⟨rfl,v,w,h3.next,hv.keep jY (by simp),hw.keep jY (by simp),by rw[e4,aG];rfl,rfl,rfl,rfl,rfl,trivial⟩
 rintro y e h3 ⟨rfl,v,w,p7,hv,hw,g7,he⟩;show VC fs ms _ _ _ _ _ _;refine ak 4 _ he ?_;clear he;obtain⟨b1,Rh,ox⟩:=hv.JT (fE _) (bz _);obtain⟨b2,Wt,iH⟩:=hw.JT (size_pos _) (fk _);rw[bh,List.length_map] at Rh;rw[kG] at Wt;generalize gv L.length=k3 at*;generalize gv O.length=k4 at*;have hfz:jo (· ∈p7::(b1++b2)) h3 (.ptr p7 0) (.fp [.fz k3 (pts (L.map jl)),.fz k4 (pos O)] 0):=
  .ptr' (by simp) g7 (.cons (Rh.mono fun b hb=>by simp[hb]) (.cons (Wt.mono fun b hb=>by simp[hb]) .nil))
 refine dV (p7::(b1++b2)) (i:=7) rfl hfz ?_;generalize ck (p7::(b1++b2)) h3=h4;clear hfz g7 hv hw Rh Wt ox iH;refine ak 4 [(1,.fz k1 (b8 M)),(2,.int .i64 u),(3,.fp [.fz k (pts L),.fz ko (pos O)] 0),(7,.fp [.fz k3 (pts (L.map jl)),.fz k4 (pos O)] 0)] ⟨rfl,rfl,rfl,rfl,trivial⟩ ?_;refine aj true ?_;conv=>whnf
 refine az (VC.mono (Q:=fun y e h5=>y=.normal∧∃v,GR 7 h4.next h5 v (b8 M)∧aP e [(1,.fz k1 (b8 M)),(2,.int .i64 u),(3,.fp [.fz k (pts L),.fz ko (pos O)] 0),(7,.fp [.fz k3 (pts (L.map jl)),.fz k4 (pos O)] 0),(8,v)]) ?_ ?_)
 ·refine aa (z:=true) ?_;conv=>whnf
  have VP:bx (ai (b8 M))=true:=kZ M;obtain⟨v,h5,e5,hv,k9⟩:=GR.copy (bytes:=64) (k:=k1) (lo:=h4.next) (h:=h4) (Nat.le_refl _) (dK M) VP (by rw[bU];exact aa0) (by rw[bU];omega);refine aT e5 fun O6 YM=>?_;subst YM;conv=>whnf
  exact⟨rfl,v,hv,rfl,rfl,rfl,rfl,rfl,trivial⟩
 rintro y e h5 ⟨rfl,v,hv,he⟩;show VC fs ms _ _ _ _ _ _;refine ak 4 _ he ?_;clear he;obtain⟨b1,Rh,ox⟩:=hv.JT (dK _) (nG _);rw[bU] at Rh;generalize gv M.length=k5 at*;refine dV b1 (i:=8) rfl Rh ?_;generalize ck b1 h5=h6;clear hv Rh ox;refine ak 4 [(1,.fz k1 (b8 M)),(2,.int .i64 u),(3,.fp [.fz k (pts L),.fz ko (pos O)] 0),(7,.fp [.fz k3 (pts (L.map jl)),.fz k4 (pos O)] 0),(8,.fz k5 (b8 M))] ⟨rfl,rfl,rfl,rfl,rfl,trivial⟩ ?_;have hj:=qh (k:=k) (ko:=ko) (kl:=k5) hf hk hM u;have hr:=P6 (k:=k3) (ko:=k4) (kl:=k1) hf.cp hM u;rw[KG,←find_eq] at hr;have hsame:=Qi k ko k3 k4 hf;generalize di L O M u=r at*;obtain⟨r1,r2,r3⟩:=r;refine aj true ?_;conv=>whnf
 refine⟨cfg k L ko O,rfl,?_⟩;conv=>whnf
 refine au hj ?_;conv=>whnf
 refine aj true ?_;conv=>whnf
 refine⟨cfg k3 (L.map jl) k4 O,rfl,?_⟩;conv=>whnf
 refine au hr ?_;conv=>whnf
 refine az (aj true ?_);conv=>whnf
 refine aL ?_;refine S5 (k1:=k1) (k2:=k5) (M:=M) hM (Y3:=.fp [.fz k (pts L),.fz ko (pos O)] 0) (Y7:=.fp [.fz k3 (pts (L.map jl)),.fz k4 (pos O)] 0) (Y:=[.int .i64 r1,.int .i64 r2,.int .i64 r3,.int .i64 r1,.int .i64 r2,.int .i64 r3]) rfl (fun e' he=>?_) M.length 0 _ rfl (Nat.zero_le _) ⟨rfl,rfl,rfl,rfl,rfl,rfl,rfl,rfl,rfl,rfl,rfl,trivial⟩;show VC fs ms _ _ _ _ _ _;refine ak 4 _ he (aa (z:=true) ?_);clear he hj hr;have hb:∀a:Int,(a==a)=true:=fun a=>by simp
 conv=>whnf
 refine kO (hb _) (fun hc=>?_)
 (try rw[hc])
 conv=>whnf
 refine kO (hb _) (fun hc=>?_)
 (try rw[hc])
 conv=>whnf
 refine kO (hb _) (fun hc=>?_)
 (try rw[hc])
 conv=>whnf
 refine⟨cfg k L ko O,rfl,?_⟩;conv=>whnf
 refine⟨cfg k3 (L.map jl) k4 O,rfl,?_⟩;conv=>whnf
 refine au hsame ?_;conv=>whnf
 refine au lK ?_;conv=>whnf
 exact hend _
end Ir
end Go.Proofs.Ytepdklcpagielaa
