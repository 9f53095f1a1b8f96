/-
  The big steps of Ads; what they mean in the model.
-/
import Derived.Test.YtlndlbngfgaoeaaAdsMemX
import Derived.RangeFuncLeaves
import Derived.TacticsIn
import Derived.OrdersIn
set_option linter.unusedSimpArgs false
set_option linter.unusedVariables false
namespace Go.Proofs.Ytlndlbngfgaoeaa
namespace Ads

structure Mark1 where
 h : Heap
 vals : List AV
 v : AV
 on : Bool

def wantedA (i : Ins) (e : Env) : Bool :=
 match i.guard with
 | none => true
 | some (d, want) => match e.get d with
  | .bool b => b == want
  | _ => false

def nextHeap : List Mark1 → Heap → Heap
 | [], h => h
 | m :: _, _ => m.h

def madeBy (x : Ins) (m : Mark1) : Option Blk :=
 match x.op, m.on with
 | .a o, true => (aI o m.vals).map (·.1)
 | _, _ => none

def over : List Ins → List Mark1 → Tr Blk → Tr Blk
 | x :: l, m :: tr, t => match madeBy x m with
  | some b => over l tr (t.set m.h.next b)
  | none => over l tr t
 | _, _, t => t

def heapU (l : List Ins) (tr : List Mark1) (h' : Heap) (c : Nat) : Heap :=
 ⟨h'.next, over (l.drop c) (tr.drop c) (nextHeap (tr.drop c) h').m⟩

def readsOk (u : Nat → Heap) : List Ins → List (List Nat) → List Mark1 → Prop
 | x :: l, cs :: win, m :: tr => (match x.op with
   | .r o => m.on = true → ∀ c ∈ cs, rI o m.vals (u c) = some m.v
   | _ => True) ∧ readsOk u l win tr
 | _, _, _ => True

def regionOk (l : List Ins) (win : List (List Nat)) (tr : List Mark1) (h' : Heap) : Prop :=
 readsOk (heapU l tr h') l win tr

def resOf (e : Env) (h : Heap) : RVar → Option AV
 | .tmp t => some (e.get t)
 | .cell a n g => match e.get a with
  | .ptr b o => cond g ((h.loadN b o n).map .agg) (h.load1 b o)
  | _ => none

def resAll (e : Env) (h : Heap) : List RVar → Option (List AV)
 | [] => some []
 | r :: rs => match resOf e h r, resAll e h rs with
  | some v, some vs => some (v :: vs)
  | _, _ => none

def resVal : List AV → AV
 | [v] => v
 | vs => .tup vs

def putAll : List Nat → List AV → Env → Env
 | t :: ts, v :: vs, e => putAll ts vs (Tr.set e t v)
 | _, _, e => e

def AX.normal? : AX → Bool
 | .normal => true
 | _ => false

def pendOf : AX → Option AX
 | .normal => none
 | x => some x

def recV : AX → AV
 | .panic v => v
 | _ => .nili
def plainL : List Ins → Bool
 | [] => true
 | i :: l => (match i.op, i.guard with
  | .p _, none => true
  | _, _ => false) && plainL l

def overN (h g g' : Heap) : Nat → Tr Blk
 | 0 => h.m
 | n + 1 => if (g.get n).isSome = true ∨ h.next ≤ n then Tr.put (g'.get n) (n + 1) (overN h g g' n) n else overN h g g' n
def over2 (h g g' : Heap) : Heap := ⟨g'.next, overN h g g' g'.next⟩
def SubH (g h : Heap) : Prop := g.next = h.next ∧ ∀ b x, g.get b = some x → h.get b = some x

inductive Task where
 | code (rd : Bool) (c : AC) (e : Env) (h : Heap)
 | ops (rd : Bool) (l : List Ins) (e : Env) (h : Heap)
 | op (rd : Bool) (o : IOp) (vals : List AV) (h : Heap)
 | callv (fv : AV) (args : List AV) (h : Heap)
 | call (f : Nat) (args : List AV) (h : Heap)
 | any (rd : Bool) (c : AC) (e : Env) (h : Heap)

def unExit (id : Nat) : AX → AX
 | .exit i => if i = id then .normal else .exit i
 | x => x

inductive Res where
 | code (x : AX) (e : Env) (h : Heap)
 | ops (tr : List Mark1) (e : Env) (h : Heap)
 | val (v : AV) (h : Heap)
 | pan (v : AV) (h : Heap)
 | post (Q : AX → Env → Heap → Prop)

inductive BS (fs : Nat → Option AFunc) (ms : Nat → String → Option Nat) : Task → Res → Prop where
 | skip {rd e h} : BS fs ms (.code rd .skip e h) (.code .normal e h)
 | ops {rd l e h tr e' h'} : BS fs ms (.ops rd l e h) (.ops tr e' h') → BS fs ms (.code rd (.ops l) e h) (.code .normal e' h')
 | dops {rd l win e h tr e' h'} : BS fs ms (.ops rd l e h) (.ops tr e' h') → regionOk l win tr h' → BS fs ms (.code rd (.dops l win) e h) (.code .normal e' h')
 | seqN {rd a b e h e1 h1 r} : BS fs ms (.code rd a e h) (.code .normal e1 h1) → BS fs ms (.code rd b e1 h1) r → BS fs ms (.code rd (.seq a b) e h) r
 | seqX {rd a b e h x e1 h1} : BS fs ms (.code rd a e h) (.code x e1 h1) → x.normal? = false → BS fs ms (.code rd (.seq a b) e h) (.code x e1 h1)
 | cond {rd c a b e h t r} : e.ev c = .bool t → BS fs ms (.code rd (bif t then a else b) e h) r → BS fs ms (.code rd (.cond c a b) e h) r
 | blockX {rd id c e h e1 h1} : BS fs ms (.code rd c e h) (.code (.exit id) e1 h1) → BS fs ms (.code rd (.block id c) e h) (.code .normal e1 h1)
 | blockN {rd id c e h x e1 h1} : BS fs ms (.code rd c e h) (.code x e1 h1) → (∀ i, x = .exit i → i ≠ id) → BS fs ms (.code rd (.block id c) e h) (.code x e1 h1)
 | loopN {rd c e h e1 h1 r} : BS fs ms (.code rd c e h) (.code .normal e1 h1) → BS fs ms (.code rd (.loop c) e1 h1) r → BS fs ms (.code rd (.loop c) e h) r
 | loopX {rd c e h x e1 h1} : BS fs ms (.code rd c e h) (.code x e1 h1) → x.normal? = false → BS fs ms (.code rd (.loop c) e h) (.code x e1 h1)
 | exit {rd id e h} : BS fs ms (.code rd (.exit id) e h) (.code (.exit id) e h)
 | ret {rd e h} : BS fs ms (.code rd .ret e h) (.code .ret e h)
 | rangeFunc {g ps a b e h f first capt v h2 st x} : Env.ev e g = AV.func (.func f) first capt →
   BS fs ms (.call f (first ++ (.yield h.next :: capt)) (h.new (.loop 0 none e ps a b))) (.val v h2) →
   h2.get h.next = some (.loop st (pendOf x) e ps a b) → st ≠ 1 → (∀ v, x ≠ .panic v) →
   BS fs ms (.code false (.rangeFunc g ps a b) e h) (.code x e (h2.set h.next (.loop 3 (pendOf x) e ps a b)))
 | nil {rd e h} : BS fs ms (.ops rd [] e h) (.ops [] e h)
 | off {rd i l e h tr e' h'} : wantedA i e = false → BS fs ms (.ops rd l (e.put i.dst .undef) h) (.ops tr e' h') → BS fs ms (.ops rd (i :: l) e h) (.ops (⟨h, i.args.map e.ev, .undef, false⟩ :: tr) e' h')
 | on {rd i l e h v h1 tr e' h'} : wantedA i e = true → BS fs ms (.op rd i.op (i.args.map e.ev) h) (.val v h1) → BS fs ms (.ops rd l (e.put i.dst v) h1) (.ops tr e' h') →
   BS fs ms (.ops rd (i :: l) e h) (.ops (⟨h, i.args.map e.ev, v, true⟩ :: tr) e' h')
 | opP {rd o vals h v} : pI o vals = some v → BS fs ms (.op rd (.p o) vals h) (.val v h)
 | opA {rd o vals h x f} : aI o vals = some (x, f) → BS fs ms (.op rd (.a o) vals h) (.val (f h.next) (h.new x))
 | opR {rd o vals h v} : rI o vals h = some v → BS fs ms (.op rd (.r o) vals h) (.val v h)
 | opE {rd o vals h v h1} : eI o vals h = some (v, h1) → BS fs ms (.op rd (.e o) vals h) (.val v h1)
 | opK {rd o vals h v h1} : eK o vals h = some (v, h1) → BS fs ms (.op rd (.e o) vals h) (.val v h1)
 | opCall {rd fv args h v h1} : BS fs ms (.callv fv args h) (.val v h1) → BS fs ms (.op rd .call (fv :: args) h) (.val v h1)
 | opInvoke {rd name t x args h f v h1} : ms t name = some f → BS fs ms (.call f (x :: args) h) (.val v h1) → BS fs ms (.op rd (.invoke name) (.iface t x :: args) h) (.val v h1)
 | callv {f first capt args h v h1} : BS fs ms (.call f (first ++ (args ++ capt)) h) (.val v h1) → BS fs ms (.callv (.func (.func f) first capt) args h) (.val v h1)
 | yield {L args h pend e ps a b e2 h2 pend2 x e4 h4 st4 pend4} : h.get L = some (.loop 0 pend e ps a b) → args.length = ps.length →
   BS fs ms (.code true a (putAll ps args e) h) (.code .normal e2 h2) → h2.get L = some (.loop 0 pend2 e ps a b) →
   BS fs ms (.code true b e2 (h2.set L (.loop 1 pend2 e ps a b))) (.code x e4 h4) → (∀ v, x ≠ .panic v) → h4.get L = some (.loop st4 pend4 e ps a b) →
   BS fs ms (.callv (.yield L) args h) (.val (.bool x.normal?) (h4.set L (.loop (bif x.normal? then 0 else 2) (pendOf x) e ps a b)))
 | call {f args h af x e h1 vs} : fs f = some af → args.length ≤ af.ntmps → BS fs ms (.code false af.body (Env.start af.ntmps args) h) (.code x e h1) → (x = .normal ∨ x = .ret) → resAll e h1 af.results = some vs →
   BS fs ms (.call f args h) (.val (resVal vs) h1)
 | opsP {rd l1 i l2 e h tr e1 h1 v h2} : BS fs ms (.ops rd l1 e h) (.ops tr e1 h1) → wantedA i e1 = true → BS fs ms (.op rd i.op (i.args.map e1.ev) h1) (.pan v h2) → BS fs ms (.code rd (.ops (l1 ++ i :: l2)) e h) (.code (.panic v) e1 h2)
 | dopsP {rd l1 i win e h tr e1 h1 v h2} : BS fs ms (.ops rd l1 e h) (.ops tr e1 h1) → regionOk l1 (win.take l1.length) tr h1 → lastOk (l1 ++ [i]) = true → isEff i.op = true → wantedA i e1 = true → BS fs ms (.op rd i.op (i.args.map e1.ev) h1) (.pan v h2) →
   BS fs ms (.code rd (.dops (l1 ++ [i]) win) e h) (.code (.panic v) e1 h2)
 | opPanic {rd t x h} : BS fs ms (.op rd .panic [.iface t x] h) (.pan (.iface t x) h)
 | opCallP {rd fv args h v h1} : BS fs ms (.callv fv args h) (.pan v h1) → BS fs ms (.op rd .call (fv :: args) h) (.pan v h1)
 | opInvokeP {rd name t x args h f v h1} : ms t name = some f → BS fs ms (.call f (x :: args) h) (.pan v h1) → BS fs ms (.op rd (.invoke name) (.iface t x :: args) h) (.pan v h1)
 | callvP {f first capt args h v h1} : BS fs ms (.call f (first ++ (args ++ capt)) h) (.pan v h1) → BS fs ms (.callv (.func (.func f) first capt) args h) (.pan v h1)
 | callP {f args h af v e h1} : fs f = some af → args.length ≤ af.ntmps → BS fs ms (.code false af.body (Env.start af.ntmps args) h) (.code (.panic v) e h1) → BS fs ms (.call f args h) (.pan v h1)
 | callD {f args h af A l1 dst r rest e1 h1 tr e2 h2 g first capt x e3 h3 ag t l2 rest2 tr2 e4 y e5 h5 vs} : fs f = some af → args.length ≤ af.ntmps → af.body = .seq A (.seq (.ops (l1 ++ [dferI dst r])) rest) →
   BS fs ms (.code false A (Env.start af.ntmps args) h) (.code .normal e1 h1) → noRange A = true → BS fs ms (.ops false l1 e1 h1) (.ops tr e2 h2) → e2.ev r = .func (.func g) first capt →
   BS fs ms (.code false rest (e2.put dst .undef) h2) (.code x e3 h3) → (x = .normal ∨ x = .ret ∨ ∃ v, x = .panic v) →
   fs g = some ag → (first ++ capt).length ≤ ag.ntmps → ag.body = .seq (.ops (rcvI t :: l2)) rest2 → ag.results = [] → noRange rest2 = true →
   BS fs ms (.ops false l2 ((Env.start ag.ntmps (first ++ capt)).put (some t) (recV x)) h3) (.ops tr2 e4 h3) → plainL l2 = true → BS fs ms (.code false rest2 e4 h3) (.code y e5 h5) → (y = .normal ∨ y = .ret) →
   resAll e3 h5 af.results = some vs → BS fs ms (.call f args h) (.val (resVal vs) h5)
 | rangeFuncP {g ps a b e h f first capt v h2} : Env.ev e g = AV.func (.func f) first capt → BS fs ms (.call f (first ++ (.yield h.next :: capt)) (h.new (.loop 0 none e ps a b))) (.pan v h2) → BS fs ms (.code false (.rangeFunc g ps a b) e h) (.code (.panic v) e h2)
 | yieldP {L args h pend e ps a id A l1 i l2 e2 h2 pend2 e3 h3 tr e4 h4 v h5} : h.get L = some (.loop 0 pend e ps a (.block id (.seq A (.ops (l1 ++ i :: l2))))) → args.length = ps.length →
   BS fs ms (.code true a (putAll ps args e) h) (.code .normal e2 h2) → noRange a = true → h2.get L = some (.loop 0 pend2 e ps a (.block id (.seq A (.ops (l1 ++ i :: l2))))) → noRange A = true →
   BS fs ms (.code true A e2 (h2.set L (.loop 1 pend2 e ps a (.block id (.seq A (.ops (l1 ++ i :: l2))))))) (.code .normal e3 h3) → BS fs ms (.ops true l1 e3 h3) (.ops tr e4 h4) → wantedA i e4 = true →
   BS fs ms (.op true i.op (i.args.map e4.ev) h4) (.pan v h5) → BS fs ms (.callv (.yield L) args h) (.pan v h5)
 | forget {f args h v H h2} : SubH h2 H → (∀ b, b < h.next → h.get b ≠ none → h2.get b = H.get b) → BS fs ms (.call f args h) (.val v H) → BS fs ms (.call f args h) (.val v h2)
 | frameU {f args h g v u h2} : SubH g h → BS fs ms (.call f args g) (.val v u) → h2.next = u.next → (∀ b, b < h.next → h2.get b = if (g.get b).isSome = true then u.get b else h.get b) →
   (∀ b, h.next ≤ b → h.get b = none → h2.get b = if b < u.next then u.get b else none) → BS fs ms (.call f args h) (.val v h2)
 | fresh {f args h v h1} : BS fs ms (.call f args ⟨0, .nil⟩) (.val v h1) → allD (fun _ => False) args → v.inD (fun _ => False) → BS fs ms (.call f args h) (.val v h)

 | anyOne {rd c e h x e' h' Q} : BS fs ms (.code rd c e h) (.code x e' h') → Q x e' h' → BS fs ms (.any rd c e h) (.post Q)
 | anySeq {rd a b e h R Q} : BS fs ms (.any rd a e h) (.post R) → (∀ x e1 h1, R x e1 h1 → x.normal? = false → Q x e1 h1) → (∀ e1 h1, R .normal e1 h1 → BS fs ms (.any rd b e1 h1) (.post Q)) → BS fs ms (.any rd (.seq a b) e h) (.post Q)
 | anyCond {rd c a b e h t Q} : e.ev c = .bool t → BS fs ms (.any rd (bif t then a else b) e h) (.post Q) → BS fs ms (.any rd (.cond c a b) e h) (.post Q)
 | anyBlock {rd id c e h R Q} : BS fs ms (.any rd c e h) (.post R) → (∀ x e1 h1, R x e1 h1 → Q (unExit id x) e1 h1) → BS fs ms (.any rd (.block id c) e h) (.post Q)
 | anyLoop {rd c e h R Q} : BS fs ms (.any rd c e h) (.post R) → (∀ x e1 h1, R x e1 h1 → x.normal? = false → Q x e1 h1) → (∀ e1 h1, R .normal e1 h1 → BS fs ms (.any rd (.loop c) e1 h1) (.post Q)) → BS fs ms (.any rd (.loop c) e h) (.post Q)
 | anyNext {rd dst args l e h cs Q} (T : AV × Heap → List Mark1) (E : AV × Heap → Env) (H : AV × Heap → Heap) : nextC (args.map e.ev) h = some cs → cs ≠ [] →
   (∀ p ∈ cs, BS fs ms (.ops rd l (e.put dst p.1) p.2) (.ops (T p) (E p) (H p))) → (∀ p ∈ cs, Q .normal (E p) (H p)) → BS fs ms (.any rd (.ops (⟨dst, none, .e .next, args⟩ :: l)) e h) (.post Q)
 | callAny {f args h af v h2 Q} : fs f = some af → args.length ≤ af.ntmps → BS fs ms (.any false af.body (Env.start af.ntmps args) h) (.post Q) →
   (∀ x e h1, Q x e h1 → (x = .normal ∨ x = .ret) ∧ (∃ vs, resAll e h1 af.results = some vs ∧ resVal vs = v) ∧ SubH h2 h1 ∧ ∀ b, b < h.next → h.get b ≠ none → h2.get b = h1.get b) → BS fs ms (.call f args h) (.val v h2)

end Ads
end Go.Proofs.Ytlndlbngfgaoeaa
