/-
  Room: the document's room in a heap. Room: what the document's room answers without a change.
-/
import Derived.Test.YtnlcabhfkpafmaaGreatZH
set_option maxRecDepth 100000
set_option linter.unusedSimpArgs false
set_option linter.unusedVariables false
namespace Go.Proofs.YtnlcabhfkpafmaaGreat
open Go Ads
namespace Ir
def sh(col:Nat→Nat):Nat→Nat:=fun c=>col c-100
def DK(n:Nat):Prop:=RK (n-100)
section
variable {h h':Heap} {col aB c':Nat→Nat} {K:Nat→Prop}
theorem Kc.shf(f:Kc h h' col aB K):Kc h h' (sh col) (sh aB) (fun n=>∃m,K m∧m-100=n):=
 ⟨f.next,fun c hc hn=>f.keep c hc (fun hk=>hn ⟨_,hk,rfl⟩),fun c hc=>by simp only[sh,f.col c hc]⟩
theorem Kc.un(f:Kc h h' (sh col) c' RK):∃aB,sh aB=c'∧Kc h h' col aB DK:=by
 refine⟨fun x=>if x<h.next then col x else c' x+100,?_,f.next,fun c hc hn=>f.keep c hc hn,fun c hc=>if_pos hc⟩
 funext x
 by_cases hx:x<h.next
 ·have:=f.col x hx;simp only[sh] at this⊢;rw[if_pos hx,this]
 ·simp only[sh];rw[if_neg hx];omega
structure Mq(h:Heap)(col:Nat→Nat)(m s q:Nat)(tv gv:AV)(J n:Nat):Prop where
 lt:m<h.next
 co:col m=1
 get:h.get m=some (.cells [tv,gv,.ptr q 0,.ptr s 0,.sl J 0 n n false] true 0)
def Th(h:Heap)(col:Nat→Nat)(tv:AV)(T:List Tk):Prop:=DM h tv T∧∀d,d∈dM tv→col d=6
def Cs(h:Heap)(col:Nat→Nat)(s:Nat)(T:List Tk)(L:List En):Prop:=∃tv v,qA h s tv v T L∧col s=2∧(∀d,d∈dM tv→col d=2)∧∀d,d∈dM v→col d=2
def Ax(h:Heap)(col:Nat→Nat)(q:Nat)(D:List Int):Prop:=∃b es op,rP h q b es op D∧col q=3∧col b=3
def O5(h:Heap)(col:Nat→Nat)(i b:Nat)(j:Jb):Prop:=∃p C o v,JR h b p C o v j∧C<h.next∧col b=10+i∧col p=10+i∧col C=10+i
theorem Mq.keep{m s q J n:Nat}{tv gv:AV}(R:Mq h col m s q tv gv J n)(f:Kc h h' col aB K)(hK:¬K 1):Mq h' aB m s q tv gv J n:=
 ⟨Nat.lt_of_lt_of_le R.lt f.next,(f.col m R.lt).trans R.co,(f.keep m R.lt (by rw[R.co];exact hK)).trans R.get⟩
theorem Kc.fr(f:Kc h h' col aB K):Fr h h' ((List.range h.next).filter fun c=>@decide (K (col c)) (Classical.propDecidable _)):=by
 refine⟨f.next,fun c hc hn=>f.keep c hc fun hk=>hn ?_⟩;rw[List.mem_filter,List.mem_range];exact⟨hc,@decide_eq_true _ (Classical.propDecidable _) hk⟩
theorem Kc.not(col:Nat→Nat){h:Heap}{K:Nat→Prop}{c:Nat}(hk:¬K (col c)):c∉(List.range h.next).filter fun c=>@decide (K (col c)) (Classical.propDecidable _):=by
 intro hm;rw[List.mem_filter] at hm;exact hk (@of_decide_eq_true _ (Classical.propDecidable _) hm.2)
theorem Th.keep{tv:AV}{T:List Tk}(R:Th h col tv T)(f:Kc h h' col aB K)(hK:¬K 6):Th h' aB tv T:=
 ⟨R.1.keep f.fr fun c hc=>Kc.not col (by rw[R.2 c hc];exact hK),fun d hd=>by rw[f.col d (R.1.lt d hd).1,R.2 d hd]⟩
theorem Cs.keep{s:Nat}{T:List Tk}{L:List En}(R:Cs h col s T L)(f:Kc h h' col aB K)(hK:¬K 2):Cs h' aB s T L:=by
 obtain⟨tv,v,S,c1,c2,c3⟩:=R;exact⟨tv,v,S.keep f.fr (Kc.not col (by rw[c1];exact hK)) (fun c hc=>Kc.not col (by rw[c2 c hc];exact hK)) (fun c hc=>Kc.not col (by rw[c3 c hc];exact hK)),
  by rw[f.col s S.lt,c1],fun d hd=>by rw[f.col d (S.tr.lt d hd).1,c2 d hd],fun d hd=>by rw[f.col d (GR.Gg S.en hd).2.1,c3 d hd]⟩
theorem Ax.keep{q:Nat}{D:List Int}(R:Ax h col q D)(f:Kc h h' col aB K)(hK:¬K 3):Ax h' aB q D:=by
 obtain⟨b,es,op,M,c1,c2⟩:=R;exact⟨b,es,op,M.keep f.fr (Kc.not col (by rw[c1];exact hK)) (Kc.not col (by rw[c2];exact hK)),by rw[f.col q M.lm,c1],by rw[f.col b M.lb,c2]⟩
theorem O5.keep{i b:Nat}{j:Jb}(R:O5 h col i b j)(f:Kc h h' col aB K)(hK:¬K (10+i)):O5 h' aB i b j:=by
 obtain⟨p,C,o,v,J,hC,c1,c2,c3⟩:=R;have hp:=J.rw.lt;refine⟨p,C,o,v,⟨Nat.lt_of_lt_of_le J.lt f.next,(f.keep b J.lt (by rw[c1];exact hK)).trans J.st,⟨Nat.lt_of_lt_of_le hp f.next,J.rw.ne,(f.keep p hp (by rw[c2];exact hK)).trans J.rw.st,?_⟩,J.n1,J.n2⟩,Nat.lt_of_lt_of_le hC f.next,by rw[f.col b J.lt,c1],by rw[f.col p hp,c2],by rw[f.col C hC,c3]⟩;have hr:=J.rw.row;cases hl:j.l with
 |nil=>rw[hl] at hr;exact hr
 |cons x l=>
  rw[hl] at hr;obtain⟨u,cs,e,h1,h2,h3⟩:=hr;exact⟨u,cs,e,Nat.lt_of_lt_of_le h1 f.next,(f.keep C hC (by rw[c3];exact hK)).trans h2,h3⟩
end
structure qy(h:Heap)(col:Nat→Nat)(m s q J:Nat)(tv gv:AV)(D:List Int)(ws:Ws)(gs:List (Nat×Int))(T:List Tk)(L:List En):Prop where
 n4:T.length≤4
 tl:ws.length=T.length
 gl:gs.length=T.length
 dB:Mq h col m s q tv gv J ws.length
 An:Th h col tv T
 stk:Cs h col s T L
 z5:Ax h col q D
 ko:Te h col J ws
 mN:∀i w,ws[i]?=some (some w)→O5 h col i w.1 w.2
 uK:Tb h col gv gs T
section
variable {h h':Heap} {col aB:Nat→Nat} {K:Nat→Prop} {m s q J:Nat} {tv gv:AV} {D:List Int} {ws:Ws} {gs:List (Nat×Int)} {T:List Tk} {L:List En}
theorem qy.len(R:qy h col m s q J tv gv D ws gs T L){i:Nat}{w:Option (Nat×Jb)}(hw:ws[i]?=some w):i<4:=by
 have:=(List.getElem?_eq_some_iff.1 hw).1;have:=R.tl;have:=R.n4;omega
theorem qy.keep(R:qy h col m s q J tv gv D ws gs T L)(f:Kc h h' col aB K)(hK:∀n,1≤n→n<30→¬K n):qy h' aB m s q J tv gv D ws gs T L:=
 ⟨R.n4,R.tl,R.gl,R.dB.keep f (hK 1 (by omega) (by omega)),R.An.keep f (hK 6 (by omega) (by omega)),R.stk.keep f (hK 2 (by omega) (by omega)),R.z5.keep f (hK 3 (by omega) (by omega)),R.ko.keep f (hK 4 (by omega) (by omega)),
  fun i w hw=>(R.mN i w hw).keep f (hK _ (by omega) (by have:=R.len hw;omega)),R.uK.keep f (hK 5 (by omega) (by omega)) (fun i hi=>hK _ (by omega) (by have:=R.gl;have:=R.n4;omega))⟩
theorem qy.nil(R:qy h col m s q J tv gv D ws gs T L)(f:Fr h h' []):qy h' col m s q J tv gv D ws gs T L:=
 R.keep (K:=fun _=>False) (Kc.same f) (fun _ _ _ h=>h)
theorem qy.DB{L':List En}(R:qy h col m s q J tv gv D ws gs T L)(f:Kc h h' col aB (· =2))(S:Cs h' aB s T L'):qy h' aB m s q J tv gv D ws gs T L':=
 ⟨R.n4,R.tl,R.gl,R.dB.keep f (by decide),R.An.keep f (by decide),S,R.z5.keep f (by decide),R.ko.keep f (by decide),fun i w hw=>(R.mN i w hw).keep f (by omega),R.uK.keep f (by decide) (by intro i _;omega)⟩
theorem qy.Jv{D':List Int}(R:qy h col m s q J tv gv D ws gs T L)(f:Kc h h' col aB (· =3))(S:Ax h' aB q D'):qy h' aB m s q J tv gv D' ws gs T L:=
 ⟨R.n4,R.tl,R.gl,R.dB.keep f (by decide),R.An.keep f (by decide),R.stk.keep f (by decide),S,R.ko.keep f (by decide),fun i w hw=>(R.mN i w hw).keep f (by omega),R.uK.keep f (by decide) (by intro i _;omega)⟩
theorem qy.v9{i b:Nat}{j j':Jb}(R:qy h col m s q J tv gv D ws gs T L)(hw:ws[i]?=some (some (b,j)))(f:Kc h h' col aB (· =10+i))(S:O5 h' aB i b j'):qy h' aB m s q J tv gv D (ws.set i (some (b,j'))) gs T L:=by
 have hi:=R.len hw;have hl:=(List.getElem?_eq_some_iff.1 hw).1;have e:(ws.set i (some (b,j'))).map (Option.map Prod.fst)=ws.map (Option.map Prod.fst):=by
  apply List.ext_getElem?;intro n;rw[List.getElem?_map,List.getElem?_map,List.getElem?_set];by_cases e:i=n
  ·subst e;rw[if_pos rfl,if_pos hl,hw];rfl
  ·rw[if_neg e]
 refine⟨R.n4,by rw[List.length_set];exact R.tl,R.gl,?_,R.An.keep f (by omega),R.stk.keep f (by omega),R.z5.keep f (by omega),?_,fun n w hn=>?_,R.uK.keep f (by omega) (by intro i _;omega)⟩
 ·rw[List.length_set];exact R.dB.keep f (by omega)
 ·obtain⟨a1,a2,a3⟩:=R.ko.keep f (by omega);exact⟨a1,a2,by rw[e];exact a3⟩
 ·rw[List.getElem?_set] at hn;by_cases e:i=n
  ·subst e;rw[if_pos rfl,if_pos hl] at hn;cases hn
   exact S
  ·rw[if_neg e] at hn;exact(R.mN n w hn).keep f (by omega)
def dQ(js:List (Option Jb)):List Int:=js.map fun o=>match o with|some j=>j.e|none=>-1
def RC(h:Heap)(col:Nat→Nat)(m:Nat)(st:St):Prop:=∃s q J tv gv ws gs,qy h col m s q J tv gv (dQ st.j) ws gs st.T st.L∧st.j=wj ws∧st.g=gs.map Prod.snd∧∀(i:Nat) (j:Jb),st.j[i]?=some (some j)→j.l.length≤32∧0≤j.e
theorem RC.keep{st:St}(R:RC h col m st)(f:Kc h h' col aB K)(hK:∀n,1≤n→n<30→¬K n):RC h' aB m st:=by
 obtain⟨s,q,J,tv,gv,ws,gs,R,e1,e2,e4⟩:=R;exact⟨s,q,J,tv,gv,ws,gs,R.keep f hK,e1,e2,e4⟩
theorem RC.nil{st:St}(R:RC h col m st)(f:Fr h h' []):RC h' col m st:=R.keep (K:=fun _=>False) (Kc.same f) (fun _ _ _ h=>h)
theorem RC.v9{i b:Nat}{st:St}{j j':Jb}(R:qy h col m s q J tv gv (dQ st.j) ws gs st.T st.L)(h1:st.j=wj ws)(h2:st.g=gs.map Prod.snd)(h4:∀(i:Nat) (j:Jb),st.j[i]?=some (some j)→j.l.length≤32∧0≤j.e)
  (hw:ws[i]?=some (some (b,j)))(f:Kc h h' col aB (· =10+i))(S:O5 h' aB i b j')(he:j'.e=j.e)(hl:j'.l.length≤j.l.length):RC h' aB m {st with j:=st.j.set i (some j')}:=by
 have hj:st.j[i]?=some (some j):=by rw[h1];exact dn hw
 have KJ:=(List.getElem?_eq_some_iff.1 hj).1;have hd:dQ (st.j.set i (some j'))=dQ st.j:=by
  rw[dQ,List.map_set];refine dc ?_;rw[List.getElem?_map,hj];show some j.e=some j'.e;rw[he]
 refine⟨s,q,J,tv,gv,_,gs,by rw[hd];exact R.v9 hw f S,by rw[Aq,←h1],h2,fun n jn hn=>?_⟩;have hn:(st.j.set i (some j'))[n]?=some (some jn):=hn;rw[List.getElem?_set] at hn;by_cases e:i=n
 ·rw[if_pos e,if_pos KJ] at hn;cases hn
  have:=h4 i j hj;exact⟨by omega,by omega⟩
 ·rw[if_neg e] at hn;exact h4 n jn hn
end
section
variable {h h':Heap} {col aB:Nat→Nat} {m s q J:Nat} {tv gv:AV} {D:List Int} {ws:Ws} {gs:List (Nat×Int)} {T:List Tk} {L:List En} {st:St} {Q:AV→Heap→Prop} {t:Int}
theorem BG(KO:ws.length=T.length):lW T (wj ws) t=9∧cw T t=9∨(cw T t=0∧∃i:Nat,t=((i:Nat):Int)∧i<T.length∧(ws[i]?=some none∧lW T (wj ws) t=250∨∃b j,ws[i]?=some (some (b,j))∧lW T (wj ws) t=0)):=by
 by_cases ha:cw T t=0
 ·obtain⟨i,rfl,hi⟩:=tc ha;refine .inr ⟨ha,i,rfl,hi,?_⟩;have hw:ws[i]?=some (ws[i]'(by omega)):=List.getElem?_eq_getElem _;cases hc:ws[i]'(by omega) with
  |none=>
   rw[hc] at hw;exact .inl ⟨hw,BF hi (sV hw)⟩
  |some w=>
   rw[hc] at hw;exact .inr ⟨w.1,w.2,hw,gO hi (dn hw)⟩
 ·have h9:cw T t=9:=by
   rw[cw] at ha⊢;split at ha
   ·rename_i hh;rw[if_pos hh]
   ·exact absurd rfl ha
  exact .inl ⟨by rw[EE ha,h9],h9⟩
theorem ox(R:qy h col m s q J tv gv D ws gs T L)(hQ:Q (.int .i64 (lW T (wj ws) t)) h):VD fs ms 118 [.ptr m 0,.int .i64 t] h Q:=by
 have hl:=R.tl;have n4:=R.n4;rcases BG (t:=t) hl with⟨h9,ha⟩|⟨ha,i,rfl,hi,hcs⟩<;>refine aj (af:=La) true rfl (yB rfl) ?_
 ·rw[h9] at hQ
  set_option smartUnfolding false in conv => whnf
  refine br (fun hc=>?_) (fun hc=>?_)<;>(try rw[hc])<;>(set_option smartUnfolding false in conv=>whnf)
  ·exact hQ
  have hneg:=hc;repeat(first|(refine⟨_,aS R.dB.get rfl,?_⟩;set_option smartUnfolding false in conv=>whnf))
  rw[R.An.1.len]
  set_option smartUnfolding false in conv => whnf
  refine br (fun hc=>?_) (fun hc=>?_)<;>(try rw[hc])<;>(set_option smartUnfolding false in conv=>whnf)
  ·exact hQ
  ·rw[cw,hneg,hc] at ha;exact absurd ha (by decide)
 ·have Iu:i<ws.length:=by omega
  set_option smartUnfolding false in conv => whnf
  repeat(first|(refine⟨_,aS R.dB.get rfl,?_⟩;set_option smartUnfolding false in conv=>whnf))
  rw[R.An.1.len]
  set_option smartUnfolding false in conv => whnf
  refine nC (by simp;omega) (fun hc=>?_)
  (try rw[hc])
  set_option smartUnfolding false in conv => whnf
  rcases hcs with⟨hw,ho⟩|⟨b,j,hw,ho⟩
  ·have hg:((ws.map (Option.map Prod.fst)).map xF)[i*1]?=some (xF none):=by rw[Nat.mul_one,List.getElem?_map,List.getElem?_map,hw];rfl
   repeat(first|(refine⟨_,aS R.dB.get rfl,?_⟩;set_option smartUnfolding false in conv=>whnf)|(refine⟨_,aH Iu,?_⟩;set_option smartUnfolding false in conv=>whnf)|(refine⟨_,aS R.ko.get hg,?_⟩;set_option smartUnfolding false in conv=>whnf))
   rw[ho] at hQ;exact hQ
  ·have hg:((ws.map (Option.map Prod.fst)).map xF)[i*1]?=some (xF (some b)):=by rw[Nat.mul_one,List.getElem?_map,List.getElem?_map,hw];rfl
   repeat(first|(refine⟨_,aS R.dB.get rfl,?_⟩;set_option smartUnfolding false in conv=>whnf)|(refine⟨_,aH Iu,?_⟩;set_option smartUnfolding false in conv=>whnf)|(refine⟨_,aS R.ko.get hg,?_⟩;set_option smartUnfolding false in conv=>whnf))
   rw[ho] at hQ;exact hQ
theorem kE(KO:ws.length=T.length){js:List (Option Jb)}(e1:js=wj ws)(h:lW T js t=0):∃(i b:Nat) (j:Jb),t=((i:Nat):Int)∧i<T.length∧ws[i]?=some (some (b,j))∧js[i]?=some (some j):=by
 subst e1;rcases BG (t:=t) KO with⟨h9,_⟩|⟨_,i,rfl,hi,⟨_,ho⟩|⟨b,j,hw,ho⟩⟩
 ·rw[h9] at h;exact absurd h (by decide)
 ·rw[ho] at h;exact absurd h (by decide)
 ·exact⟨i,b,j,rfl,hi,hw,dn hw⟩
theorem fN{i b:Nat}{j:Jb}(hw:ws[i]?=some (some (b,j))):((ws.map (Option.map Prod.fst)).map xF)[i*1]?=some (.ptr b 0):=by
 rw[Nat.mul_one,List.getElem?_map,List.getElem?_map,hw];rfl
theorem Jy(R:RC h col m st)(h0:lW st.T st.j t≠0→Q (.cn [.int .i64 0,.bool false]) h)(h1:∀(i:Nat) (j:Jb),t=((i:Nat):Int)→st.j[i]?=some (some j)→Q (.cn [.int .i64 j.e,.bool true]) h):
  VD fs ms 75 [.ptr m 0,.int .i64 t] h Q:=by
 obtain⟨s,q,J,tv,gv,ws,gs,R,e1,e2,e4⟩:=R;refine aj (af:=VW) true rfl (yB rfl) ?_
 set_option smartUnfolding false in conv => whnf
 refine ox R ?_;rw[←e1]
 set_option smartUnfolding false in conv => whnf
 refine br (fun hc=>?_) (fun hc=>?_)<;>(try rw[hc])<;>(set_option smartUnfolding false in conv=>whnf)
 ·exact h0 (by simpa using hc)
 obtain⟨i,b,j,rfl,hi,hw,hj⟩:=kE R.tl e1 (by simpa using hc);obtain⟨p,C,o,v,JJ,_⟩:=R.mN i _ hw;repeat(first|(refine⟨_,aS R.dB.get rfl,?_⟩;set_option smartUnfolding false in conv=>whnf)|(refine⟨_,aH (List.getElem?_eq_some_iff.1 hw).1,?_⟩;set_option smartUnfolding false in conv=>whnf)|(refine⟨_,aS R.ko.get (fN hw),?_⟩;set_option smartUnfolding false in conv=>whnf)|(refine⟨_,aS JJ.st rfl,?_⟩;set_option smartUnfolding false in conv=>whnf))
 exact h1 i j rfl hj
theorem Gq{now:Int}(R:RC h col m st)(h0:lW st.T st.j t≠0→Q (.int .i64 0) h)(h1:∀(i:Nat) (j:Jb),t=((i:Nat):Int)→st.j[i]?=some (some j)→∀h',Fr h h' []→Q (.int .i64 (rq j now)) h'):
  VD fs ms 76 [.ptr m 0,.int .i64 t,.int .i64 now] h Q:=by
 obtain⟨s,q,J,tv,gv,ws,gs,R,e1,e2,e4⟩:=R;refine aj (af:=VX) true rfl (yB rfl) ?_
 set_option smartUnfolding false in conv => whnf
 refine ox R ?_;rw[←e1]
 set_option smartUnfolding false in conv => whnf
 refine br (fun hc=>?_) (fun hc=>?_)<;>(try rw[hc])<;>(set_option smartUnfolding false in conv=>whnf)
 ·exact h0 (by simpa using hc)
 obtain⟨i,b,j,rfl,hi,hw,hj⟩:=kE R.tl e1 (by simpa using hc);obtain⟨p,C,o,v,JJ,_⟩:=R.mN i _ hw;repeat(first|(refine⟨_,aS R.dB.get rfl,?_⟩;set_option smartUnfolding false in conv=>whnf)|(refine⟨_,aH (List.getElem?_eq_some_iff.1 hw).1,?_⟩;set_option smartUnfolding false in conv=>whnf)|(refine⟨_,aS R.ko.get (fN hw),?_⟩;set_option smartUnfolding false in conv=>whnf))
 have:=(e4 i j hj).1;refine Gt JJ (by show j.l.length≤64;omega) fun h' fr=>?_
 set_option smartUnfolding false in conv => whnf
 exact h1 i j rfl hj h' fr
theorem JC(R:RC h col m st)(hL:st.L.length≤1000)(h0:lW st.T st.j t≠0→Q .aK h)(h1:∀(i:Nat) (j:Jb),t=((i:Nat):Int)→st.j[i]?=some (some j)→∀h' v,GR 1 h.next h' v (ints (bx st.L t))→Fr h h' []→Q v h'):
  VD fs ms 78 [.ptr m 0,.int .i64 t] h Q:=by
 obtain⟨s,q,J,tv,gv,ws,gs,R,e1,e2,e4⟩:=R;refine aj (af:=VY) true rfl (yB rfl) ?_
 set_option smartUnfolding false in conv => whnf
 refine ox R ?_;rw[←e1]
 set_option smartUnfolding false in conv => whnf
 refine br (fun hc=>?_) (fun hc=>?_)<;>(try rw[hc])<;>(set_option smartUnfolding false in conv=>whnf)
 ·exact h0 (by simpa using hc)
 obtain⟨i,b,j,rfl,hi,hw,hj⟩:=kE R.tl e1 (by simpa using hc);obtain⟨p,C,o,v,JJ,_⟩:=R.mN i _ hw;obtain⟨WE,v2,S,_⟩:=R.stk;repeat(first|(refine⟨_,aS R.dB.get rfl,?_⟩;set_option smartUnfolding false in conv=>whnf))
 refine nh S hL fun h' w gr fr=>?_
 set_option smartUnfolding false in conv => whnf
 exact h1 i j rfl hj h' w gr fr
theorem JG(R:RC h col m st)(h0:lW st.T st.j t≠0→∀h',Fr h h' []→Q (.cn [op s7,.bool false]) h')(h1:∀(i:Nat) (j:Jb),t=((i:Nat):Int)→st.j[i]?=some (some j)→∀h',Fr h h' []→Q (.cn [op (j.l.headD s7),.bool (!j.l.isEmpty)]) h'):
  VD fs ms 74 [.ptr m 0,.int .i64 t] h Q:=by
 have dy:Fr h (h.new (.cells (op s7).cells true 0)) []:=(Fr.refl h []).new;obtain⟨s,q,J,tv,gv,ws,gs,R,e1,e2,e4⟩:=R;refine aj (af:=VV) true rfl (yB rfl) ?_
 set_option smartUnfolding false in conv => whnf
 refine ox (R.nil dy) ?_;rw[←e1]
 set_option smartUnfolding false in conv => whnf
 refine br (fun hc=>?_) (fun hc=>?_)<;>(try rw[hc])<;>(set_option smartUnfolding false in conv=>whnf)
 ·refine bV (bp ai rfl (Nat.le_refl _) rfl) fun h1 e1=>?_
  set_option smartUnfolding false in conv => whnf
  refine dL (jT rfl (bQ (vs:=(op s7).cells) (by rw[e1];exact au) (Nat.le_refl _)) rfl) ?_
  set_option smartUnfolding false in conv => whnf
  exact h0 (by simpa using hc) _ (by rw[e1];exact dy.kf (Nat.le_refl _))
 obtain⟨i,b,j,rfl,hi,hw,hj⟩:=kE R.tl e1 (by simpa using hc);obtain⟨p,C,o,v,JJ,_⟩:=(R.nil dy).mN i _ hw;repeat(first|(refine⟨_,aS (R.nil dy).dB.get rfl,?_⟩;set_option smartUnfolding false in conv=>whnf)|(refine⟨_,aH (List.getElem?_eq_some_iff.1 hw).1,?_⟩;set_option smartUnfolding false in conv=>whnf)|(refine⟨_,aS (R.nil dy).ko.get (fN hw),?_⟩;set_option smartUnfolding false in conv=>whnf))
 refine JU JJ fun h2 ey=>?_
 set_option smartUnfolding false in conv => whnf
 have g2:h2.get h.next=some (.cells (op s7).cells true 0):=(ey.keep _ (Nat.lt_succ_self _) (by simp)).trans ai;refine bV (bp g2 rfl (Nat.le_refl _) rfl) fun h3 e3=>?_
 set_option smartUnfolding false in conv => whnf
 refine dL (jT rfl (bQ (vs:=(op (j.l.headD s7)).cells) (by rw[e3];exact au) (Nat.le_refl _)) rfl) ?_
 set_option smartUnfolding false in conv => whnf
 exact h1 i j rfl hj _ (by rw[e3];exact(dy.trans ey).kf (Nat.le_refl _))
theorem Jz(R:RC h col m st)(hQ:Q (.int .i64 (yj st t)) h):VD fs ms 77 [.ptr m 0,.int .i64 t] h Q:=by
 obtain⟨s,q,J,tv,gv,ws,gs,R,e1,e2,e4⟩:=R;by_cases ha:cw st.T t=0
 ·obtain⟨i,rfl,hi⟩:=tc ha;have sq:i<gs.length:=by rw[R.gl];exact hi
  rw[yj,if_neg (by simpa using ha),Int.toNat_natCast,e2,List.getElem?_map,List.getElem?_eq_getElem sq] at hQ;obtain⟨a1,a2,a3,a4⟩:=R.uK.all i gs[i] st.T[i] (List.getElem?_eq_getElem sq) (List.getElem?_eq_getElem hi);rcases R.uK.row with hz|⟨G,op,es,hv,b1,b2,b3⟩
  ·rw[hz] at sq;simp at sq
  ·subst hv;have hg:(gs.map fun g=>AV.ptr g.1 0)[i*1]?=some (.ptr gs[i].1 0):=by rw[Nat.mul_one,List.getElem?_map,List.getElem?_eq_getElem sq];rfl
   refine aj (af:=S9) true rfl (yB rfl) ?_
   set_option smartUnfolding false in conv => whnf
   repeat(first|(refine⟨_,aS R.dB.get rfl,?_⟩;set_option smartUnfolding false in conv=>whnf))
   rw[R.An.1.len]
   set_option smartUnfolding false in conv => whnf
   refine nC (by simp;omega) (fun hc=>?_)
   (try rw[hc])
   set_option smartUnfolding false in conv => whnf
   repeat(first|(refine⟨_,aS R.dB.get rfl,?_⟩;set_option smartUnfolding false in conv=>whnf)|(refine⟨_,aH sq,?_⟩;set_option smartUnfolding false in conv=>whnf)|(refine⟨_,aS b3 hg,?_⟩;set_option smartUnfolding false in conv=>whnf))
   refine JT a4 ?_
   set_option smartUnfolding false in conv => whnf
   exact hQ
 ·rw[yj,if_pos ha] at hQ;refine aj (af:=S9) true rfl (yB rfl) ?_
  set_option smartUnfolding false in conv => whnf
  refine br (fun hc=>?_) (fun hc=>?_)<;>(try rw[hc])<;>(set_option smartUnfolding false in conv=>whnf)
  ·exact hQ
  have hneg:=hc;repeat(first|(refine⟨_,aS R.dB.get rfl,?_⟩;set_option smartUnfolding false in conv=>whnf))
  rw[R.An.1.len]
  set_option smartUnfolding false in conv => whnf
  refine br (fun hc=>?_) (fun hc=>?_)<;>(try rw[hc])<;>(set_option smartUnfolding false in conv=>whnf)
  ·exact hQ
  ·rw[cw,hneg,hc] at ha;exact absurd rfl ha
end
end Ir
end Go.Proofs.YtnlcabhfkpafmaaGreat
