/-
  The evaluator in small pieces: for the kernel, that copies what it opens.
-/
import Derived.Test.YtflmbknimebmnaaAdsEvalC
import Derived.Test.YtflmbknimebmnaaAdsFast
set_option linter.unusedSimpArgs false
set_option linter.unusedVariables false
namespace Go.Proofs.Ytflmbknimebmnaa
namespace Ads

def aIF (o : AOp) (args : List AV) : Option (Blk × (Nat → AV)) :=
  match o with
  | .alloc zeros => match args with
    | [] => some (.cells zeros true 0, fun b => .ptr b 0)
    | _ => none
  | .box => l1 args fun v => some (.cells v.cells true 0, fun b => .ptr b 0)
  | o => aI o args
theorem aIF_eq (o : AOp) (args : List AV) : aIF o args = aI o args := by
  cases o
  case alloc z => cases args <;> rfl
  case box => rcases args with _ | ⟨x, _ | ⟨y, r⟩⟩ <;> rfl
  all_goals rfl

def rIF (o : ROp) (args : List AV) (h : Heap) : Option AV :=
  match o with
  | .load1 => l1 args fun x => dPtr x fun b o => h.load1 b o
  | .loadN n => l1 args fun x => dPtr x fun b o => (h.loadN b o n).map .agg
  | o => rI o args h
theorem rIF_eq (o : ROp) (args : List AV) (h : Heap) : rIF o args h = rI o args h := by
  cases o
  case load1 => rcases args with _ | ⟨x, _ | ⟨y, r⟩⟩ <;> first | rfl | (cases x <;> rfl)
  case loadN n => rcases args with _ | ⟨x, _ | ⟨y, r⟩⟩ <;> first | rfl | (cases x <;> rfl)
  all_goals rfl

def evStore (n : Nat) (args : List AV) (h : Heap) (k : AV → Heap → Bool) : Bool :=
  match args with
  | [x, v] => match x with
    | .ptr b o => cond (Nat.beq v.cells.length n) (storeF h b o v.cells fun h => k .undef h) false
    | _ => false
  | _ => false
def eIG (o : EOp) (args : List AV) (h : Heap) (k : AV → Heap → Bool) : Bool :=
  match o with
  | .store n => evStore n args h k
  | o => eIF o args h k
theorem eIG_eq (o : EOp) (args : List AV) (h : Heap) (k : AV → Heap → Bool) : eIG o args h k = eIF o args h k := by
  cases o
  case store n => rcases args with _ | ⟨x, _ | ⟨y, _ | ⟨z, r⟩⟩⟩ <;> first | rfl | (cases x <;> rfl)
  all_goals rfl

abbrev Rec := Task → (Res → Bool) → Bool

def kOps (k : Res → Bool) (r : Res) : Bool := match r with
  | .ops tr e' h' => k (.code .normal e' h')
  | _ => false
def kDops (l : List Ins) (win : List (List Nat)) (k : Res → Bool) (r : Res) : Bool := match r with
  | .ops tr e' h' => cond (readsB (heapU l tr h') l win tr) (k (.code .normal e' h')) false
  | _ => false
def kSeq (ev : Rec) (rd : Bool) (b : AC) (k : Res → Bool) (r : Res) : Bool := match r with
  | .code .normal e1 h1 => ev (.code rd b e1 h1) k
  | .code x e1 h1 => k (.code x e1 h1)
  | _ => false
def kBlock (id : Nat) (k : Res → Bool) (r : Res) : Bool := match r with
  | .code (.exit i) e1 h1 => cond (Nat.beq i id) (k (.code .normal e1 h1)) (k (.code (.exit i) e1 h1))
  | .code x e1 h1 => k (.code x e1 h1)
  | _ => false
def kRange (e : Env) (ps : List Nat) (a b : AC) (L : Nat) (k : Res → Bool) (r : Res) : Bool := match r with
  | .val v h2 => match h2.get L with
    | some (.loop st none _ _ _ _) => cond (Nat.beq st 1) false (bsetF h2 L (.loop 3 none e ps a b) fun h3 => k (.code .normal e h3))
    | some (.loop st (some (.exit id)) _ _ _ _) => cond (Nat.beq st 1) false (bsetF h2 L (.loop 3 (some (.exit id)) e ps a b) fun h3 => k (.code (.exit id) e h3))
    | some (.loop st (some .ret) _ _ _ _) => cond (Nat.beq st 1) false (bsetF h2 L (.loop 3 (some .ret) e ps a b) fun h3 => k (.code .ret e h3))
    | _ => false
  | _ => false
def evRange (ev : Rec) (rd : Bool) (g : Rand) (ps : List Nat) (a b : AC) (e : Env) (h : Heap) (k : Res → Bool) : Bool := match rd, e.ev g with
  | false, .func (.func f) first capt => newF h (.loop 0 none e ps a b) fun h1 => ev (.call f (first ++ (.yield h.next :: capt)) h1) (kRange e ps a b h.next k)
  | _, _ => false
def evCond (ev : Rec) (rd : Bool) (v : AV) (a b : AC) (e : Env) (h : Heap) (k : Res → Bool) : Bool := match v with
  | .bool t => ev (.code rd (cond t a b) e h) k
  | _ => false
def evCode (ev : Rec) (rd : Bool) (c : AC) (e : Env) (h : Heap) (k : Res → Bool) : Bool := match c with
  | .skip => k (.code .normal e h)
  | .ops l => ev (.ops rd l e h) (kOps k)
  | .dops l win => ev (.ops rd l e h) (kDops l win k)
  | .seq a b => ev (.code rd a e h) (kSeq ev rd b k)
  | .cond c a b => evCond ev rd (e.ev c) a b e h k
  | .block id c => ev (.code rd c e h) (kBlock id k)
  | .loop c => ev (.code rd c e h) (kSeq ev rd (.loop c) k)
  | .exit id => k (.code (.exit id) e h)
  | .ret => k (.code .ret e h)
  | .rangeFunc g ps a b => evRange ev rd g ps a b e h k
  | .bad => false
def kMark (h : Heap) (vals : List AV) (v : AV) (on : Bool) (k : Res → Bool) (r : Res) : Bool := match r with
  | .ops tr e' h' => k (.ops (⟨h, vals, v, on⟩ :: tr) e' h')
  | _ => false
def kPut (ev : Rec) (rd : Bool) (i : Ins) (l : List Ins) (e : Env) (h : Heap) (k : Res → Bool) (r : Res) : Bool := match r with
  | .val v h1 => putE e i.dst v fun e1 => ev (.ops rd l e1 h1) (kMark h (i.args.map e.ev) v true k)
  | _ => false
def evOps (ev : Rec) (rd : Bool) (l : List Ins) (e : Env) (h : Heap) (k : Res → Bool) : Bool := match l with
  | [] => k (.ops [] e h)
  | i :: l => cond (wantedA i e) (ev (.op rd i.op (i.args.map e.ev) h) (kPut ev rd i l e h k))
      (putE e i.dst .undef fun e1 => ev (.ops rd l e1 h) (kMark h (i.args.map e.ev) .undef false k))
def kVal (h : Heap) (k : Res → Bool) (o : Option AV) : Bool := match o with
  | some v => fV v fun v => k (.val v h)
  | none => false
def kMade (h : Heap) (k : Res → Bool) (o : Option (Blk × (Nat → AV))) : Bool := match o with
  | some (x, f) => fV (f h.next) fun v => newF h x fun h1 => k (.val v h1)
  | none => false
def evCall1 (ev : Rec) (vals : List AV) (h : Heap) (k : Res → Bool) : Bool := match vals with
  | fv :: args => ev (.callv fv args h) k
  | [] => false

section
variable (fs : Nat → Option AFunc) (ms : Nat → String → Option Nat)
def evInv (ev : Rec) (name : String) (vals : List AV) (h : Heap) (k : Res → Bool) : Bool := match vals with
  | .iface t x :: args => match ms t name with
    | some f => ev (.call f (x :: args) h) k
    | none => false
  | _ => false
def evOp (ev : Rec) (o : IOp) (vals : List AV) (h : Heap) (k : Res → Bool) : Bool := match o with
  | .p o => kVal h k (pIF o vals)
  | .a o => kMade h k (aIF o vals)
  | .r o => kVal h k (rIF o vals h)
  | .e o => eIG o vals h fun v h1 => fV v fun v => k (.val v h1)
  | .call => evCall1 ev vals h k
  | .invoke name => evInv ms ev name vals h k
  | _ => false
def kYieldB (h : Heap) (L : Nat) (e : Env) (ps : List Nat) (a b : AC) (k : Res → Bool) (r : Res) : Bool := match r with
  | .code (.panic _) _ _ => false
  | .code x e4 h4 => bsetF h4 L (.loop (cond x.normal? 0 2) (pendOf x) e ps a b) fun h5 => k (.val (.bool x.normal?) h5)
  | _ => false
def kYieldA (ev : Rec) (h : Heap) (L : Nat) (e : Env) (ps : List Nat) (a b : AC) (k : Res → Bool) (r : Res) : Bool := match r with
  | .code .normal e2 h2 => match h2.get L with
    | some (.loop 0 pend2 _ _ _ _) => bsetF h2 L (.loop 1 pend2 e ps a b) fun h3 => ev (.code true b e2 h3) (kYieldB h L e ps a b k)
    | _ => false
  | _ => false
def evYield (ev : Rec) (L : Nat) (args : List AV) (h : Heap) (k : Res → Bool) : Bool := match h.get L with
  | some (.loop 0 pend e ps a b) => cond (Nat.beq args.length ps.length && Nat.ble (L + 1) h.next)
      (ev (.code true a (putAll ps args e) h) (kYieldA ev h L e ps a b k)) false
  | _ => false
def evCallv (ev : Rec) (fv : AV) (args : List AV) (h : Heap) (k : Res → Bool) : Bool := match fv with
  | .func (.func f) first capt => ev (.call f (first ++ (args ++ capt)) h) k
  | .yield L => evYield ev L args h k
  | _ => false
def kRes (rs : List RVar) (e : Env) (h : Heap) (k : Res → Bool) : Bool := match resAll e h rs with
  | some vs => fV (resVal vs) fun v => k (.val v h)
  | none => false
def kEnd (rs : List RVar) (k : Res → Bool) (r : Res) : Bool := match r with
  | .code x e h1 => match x with
    | .normal | .ret => kRes rs e h1 k
    | _ => false
  | _ => false
def evBody (ev : Rec) (af : AFunc) (args : List AV) (h : Heap) (k : Res → Bool) : Bool :=
  cond (Nat.ble args.length af.ntmps) (startF af.ntmps args fun e0 => ev (.code false af.body e0 h) (kEnd af.results k)) false
def evCall (ev : Rec) (f : Nat) (args : List AV) (h : Heap) (k : Res → Bool) : Bool := match fs f with
  | some af => evBody ev af args h k
  | none => false
def evTask (ev : Rec) (t : Task) (k : Res → Bool) : Bool := match t with
  | .code rd c e h => evCode ev rd c e h k
  | .ops rd l e h => evOps ev rd l e h k
  | .op rd o vals h => evOp ms ev o vals h k
  | .callv fv args h => evCallv ev fv args h k
  | .call f args h => evCall fs ev f args h k
def evD : Nat → Rec
  | 0 => fun _ _ => false
  | n + 1 => fun t k => evTask fs ms (evD n) t k

theorem evD_eq : ∀ n, evD fs ms n = ev fs ms n
  | 0 => by funext t k; rfl
  | n + 1 => by
    funext t k
    simp only [evD, evD_eq n]
    cases t with
    | code rd c e h =>
      cases c <;> rfl
    | ops rd l e h => cases l <;> rfl
    | op rd o vals h =>
      cases o
      case p o => simp only [evTask, evOp, pIF_eq]; rfl
      case a o => simp only [evTask, evOp, aIF_eq]; rfl
      case r o => simp only [evTask, evOp, rIF_eq]; rfl
      case e o => simp only [evTask, evOp, eIG_eq]; rfl
      all_goals rfl
    | callv fv args h => cases fv <;> rfl
    | call f args h => rfl
end
theorem evD_true {fs : Nat → Option AFunc} {ms : Nat → String → Option Nat} {n : Nat} {t : Task} {k : Res → Bool} (h : evD fs ms n t k = true) : ev fs ms n t k = true := by
  rw [← evD_eq]; exact h
end Ads
end Go.Proofs.Ytflmbknimebmnaa
