/-
  No cell of these rows narrows 'for every input' (looked for: loops, veiled, ifaces, maps, wideKeys, modest, calm, conditions, laid).
  DERIVED. THE GIVEN ROWS OF THIS SEAT. 6 by the template 'for every input the law returns true; each argument reads behind the call as it read before'; 0 by the template 'total and deterministic' (their statements: YtflmbknimebmnaaTotals.lean).
  GIVEN WITH THE SEED: the statements are not yours to turn. If you find one false, say at which input.
  Laid BY PROGRAM, IN A SANDBOX (cutbox-rows.mjs): the forced cells as the released guide's own fill.sh prints them over the translation 00ae63d404174734… (all of the seat's roots in one cut). By AI agents, Wed Nov 11 2026. No macro, syntax, notation, axiom, sorry.
-/
import Derived.Test.YtflmbknimebmnaaChecked
import GoSem.Claim
import GoSem.ClaimJoined
import GoSem.ClaimMapViews
import Derived.JoinedTies
import Derived.KernelRfl
namespace Go.Proofs.Ytflmbknimebmnaa
/- THE CELL 'sum', in the pinned program and in every row, IS THE sha256 OF THE DUMP (.gsa) THAT YtflmbknimebmnaaProg.lean LOADS. Nothing in Lean hashes anything: it is a label: what it is worth is what the hold of that sum in a sandbox is worth. -/
noncomputable def Try.pinned : Pinned := { name := "ytflmbknimebmnaa", sum := "00ae63d4041747344e56d43e7f8113abcce1f883d82e5899320d6b6a2a131169", checked := Try.checked }
namespace Rows
def none {H : Type} : Left H := { results := [], args := [] }

/-- 'escapementlaw01.TicksTwo': WHATEVER THE INPUT: true; the input reads as it did. -/
def ticksTwoSpec : ChangeSpec := { name := "ticksTwo", fn := fun _ => fun
  | [d1, d2] => { results := [.lit (.bool true)], args := [d1, d2] }
  | _ => none }
def ticksTwoRow : OpenClaim := { program := "ytflmbknimebmnaa", sum := "00ae63d4041747344e56d43e7f8113abcce1f883d82e5899320d6b6a2a131169", func := "escapement/escapementlaw01.TicksTwo", spec := "ticksTwo", unfollowed := true, recurses := true, apart := false }
def TicksTwoSaid : Prop := ticksTwoRow.holds Try.pinned (OpenSpec.ofChange ticksTwoSpec)

/-- ITS FALSE NEIGHBOUR: 'it returns false'. Refute it at one input. -/
def ticksTwoWrong : ChangeSpec := { name := "ticksTwo", fn := fun _ => fun
  | [d1, d2] => { results := [.lit (.bool false)], args := [d1, d2] }
  | _ => none }
def TicksTwoWrongFalsely : Prop := ticksTwoRow.holds Try.pinned (OpenSpec.ofChange ticksTwoWrong)

/-- 'escapementlaw01.TicksMany': WHATEVER THE INPUT: true; the input reads as it did. -/
def ticksManySpec : ChangeSpec := { name := "ticksMany", fn := fun _ => fun
  | [d1, d2] => { results := [.lit (.bool true)], args := [d1, d2] }
  | _ => none }
def ticksManyRow : OpenClaim := { program := "ytflmbknimebmnaa", sum := "00ae63d4041747344e56d43e7f8113abcce1f883d82e5899320d6b6a2a131169", func := "escapement/escapementlaw01.TicksMany", spec := "ticksMany", unfollowed := true, recurses := true, apart := false }
def TicksManySaid : Prop := ticksManyRow.holds Try.pinned (OpenSpec.ofChange ticksManySpec)

/-- ITS FALSE NEIGHBOUR: 'it returns false'. Refute it at one input. -/
def ticksManyWrong : ChangeSpec := { name := "ticksMany", fn := fun _ => fun
  | [d1, d2] => { results := [.lit (.bool false)], args := [d1, d2] }
  | _ => none }
def TicksManyWrongFalsely : Prop := ticksManyRow.holds Try.pinned (OpenSpec.ofChange ticksManyWrong)

/-- 'escapementlaw01.TicksBack': WHATEVER THE INPUT: true; the input reads as it did. -/
def ticksBackSpec : ChangeSpec := { name := "ticksBack", fn := fun _ => fun
  | [d1, d2] => { results := [.lit (.bool true)], args := [d1, d2] }
  | _ => none }
def ticksBackRow : OpenClaim := { program := "ytflmbknimebmnaa", sum := "00ae63d4041747344e56d43e7f8113abcce1f883d82e5899320d6b6a2a131169", func := "escapement/escapementlaw01.TicksBack", spec := "ticksBack", unfollowed := true, recurses := true, apart := false }
def TicksBackSaid : Prop := ticksBackRow.holds Try.pinned (OpenSpec.ofChange ticksBackSpec)

/-- ITS FALSE NEIGHBOUR: 'it returns false'. Refute it at one input. -/
def ticksBackWrong : ChangeSpec := { name := "ticksBack", fn := fun _ => fun
  | [d1, d2] => { results := [.lit (.bool false)], args := [d1, d2] }
  | _ => none }
def TicksBackWrongFalsely : Prop := ticksBackRow.holds Try.pinned (OpenSpec.ofChange ticksBackWrong)

/-- 'escapementlaw01.TicksDivide': WHATEVER THE INPUT: true; the input reads as it did. -/
def ticksDivideSpec : ChangeSpec := { name := "ticksDivide", fn := fun _ => fun
  | [d1, d2, d3] => { results := [.lit (.bool true)], args := [d1, d2, d3] }
  | _ => none }
def ticksDivideRow : OpenClaim := { program := "ytflmbknimebmnaa", sum := "00ae63d4041747344e56d43e7f8113abcce1f883d82e5899320d6b6a2a131169", func := "escapement/escapementlaw01.TicksDivide", spec := "ticksDivide", unfollowed := true, recurses := true, apart := false }
def TicksDivideSaid : Prop := ticksDivideRow.holds Try.pinned (OpenSpec.ofChange ticksDivideSpec)

/-- ITS FALSE NEIGHBOUR: 'it returns false'. Refute it at one input. -/
def ticksDivideWrong : ChangeSpec := { name := "ticksDivide", fn := fun _ => fun
  | [d1, d2, d3] => { results := [.lit (.bool false)], args := [d1, d2, d3] }
  | _ => none }
def TicksDivideWrongFalsely : Prop := ticksDivideRow.holds Try.pinned (OpenSpec.ofChange ticksDivideWrong)

/-- 'escapementlaw01.TicksAll': WHATEVER THE INPUT: true; the input reads as it did. -/
def ticksAllSpec : ChangeSpec := { name := "ticksAll", fn := fun _ => fun
  | [d] => { results := [.lit (.bool true)], args := [d] }
  | _ => none }
def ticksAllRow : OpenClaim := { program := "ytflmbknimebmnaa", sum := "00ae63d4041747344e56d43e7f8113abcce1f883d82e5899320d6b6a2a131169", func := "escapement/escapementlaw01.TicksAll", spec := "ticksAll", unfollowed := true, recurses := true, apart := false }
def TicksAllSaid : Prop := ticksAllRow.holds Try.pinned (OpenSpec.ofChange ticksAllSpec)

/-- ITS FALSE NEIGHBOUR: 'it returns false'. Refute it at one input. -/
def ticksAllWrong : ChangeSpec := { name := "ticksAll", fn := fun _ => fun
  | [d] => { results := [.lit (.bool false)], args := [d] }
  | _ => none }
def TicksAllWrongFalsely : Prop := ticksAllRow.holds Try.pinned (OpenSpec.ofChange ticksAllWrong)

/-- 'escapementlaw01.TicksKnown': WHATEVER THE INPUT: true; the input reads as it did. -/
def ticksKnownSpec : ChangeSpec := { name := "ticksKnown", fn := fun _ => fun
  | [] => { results := [.lit (.bool true)], args := [] }
  | _ => none }
def ticksKnownRow : OpenClaim := { program := "ytflmbknimebmnaa", sum := "00ae63d4041747344e56d43e7f8113abcce1f883d82e5899320d6b6a2a131169", func := "escapement/escapementlaw01.TicksKnown", spec := "ticksKnown", unfollowed := true, recurses := true, apart := false }
def TicksKnownSaid : Prop := ticksKnownRow.holds Try.pinned (OpenSpec.ofChange ticksKnownSpec)

/-- ITS FALSE NEIGHBOUR: 'it returns false'. Refute it at one input. -/
def ticksKnownWrong : ChangeSpec := { name := "ticksKnown", fn := fun _ => fun
  | [] => { results := [.lit (.bool false)], args := [] }
  | _ => none }
def TicksKnownWrongFalsely : Prop := ticksKnownRow.holds Try.pinned (OpenSpec.ofChange ticksKnownWrong)

/- THE SECOND FORM. 'bulk': how many values and letters a reading holds, each counted each time it is reached (what is shared counts as often as it is met; a slice's spare places count too). A statement '..UptoSaid' is the law's where the arguments, and the package variables that the reading takes, are together of bulk at most 1048576: NARROWER than '..Said'. Prove '..Said' where nothing that the law and all that it calls make is longer than what came in: it says more and counts as full. Else prove '..UptoSaid'. A law counts once. -/
mutual
def uptoBulk {H : Type} : DataW H → Nat
  | .lit (.string bytes) => bytes.length + 1
  | .lit _ => 1
  | .nil => 1
  | .ptr d => uptoBulk d + 1
  | .slice elems spare => uptoBulkAll elems + uptoBulkAll spare + 1
  | .agg parts => uptoBulkAll parts + 1
  | .iface _ d => uptoBulk d + 1
  | .map entries => uptoBulkEntries entries + 1
  | .held _ => 1
def uptoBulkAll {H : Type} : List (DataW H) → Nat
  | [] => 0
  | d :: r => uptoBulk d + uptoBulkAll r
def uptoBulkEntries {H : Type} : List (Lit × DataW H) → Nat
  | [] => 0
  | x :: r => uptoBulkEntry x + uptoBulkEntries r
def uptoBulkEntry {H : Type} : Lit × DataW H → Nat
  | (.string bytes, d) => bytes.length + uptoBulk d + 1
  | (_, d) => uptoBulk d + 1
 end
def uptoSmall : (H : Type) → List (DataW H) → Bool := fun _ ds => decide (uptoBulkAll ds ≤ 1048576)
def OpenSpec.upto (s : _root_.Go.ChangeSpec) : _root_.Go.OpenSpec := { _root_.Go.OpenSpec.ofChange s with cond := some uptoSmall }

/-- 'escapementlaw01.TicksTwo', WHERE WHAT IT READS IS OF BULK AT MOST 1048576: true; the input reads as it did. -/
def ticksTwoUptoRow : OpenClaim := { program := "ytflmbknimebmnaa", sum := "00ae63d4041747344e56d43e7f8113abcce1f883d82e5899320d6b6a2a131169", func := "escapement/escapementlaw01.TicksTwo", spec := "ticksTwo", unfollowed := true, recurses := true, apart := false, narrowed := true }
def TicksTwoUptoSaid : Prop := ticksTwoUptoRow.holds Try.pinned (OpenSpec.upto ticksTwoSpec)

/-- 'escapementlaw01.TicksMany', WHERE WHAT IT READS IS OF BULK AT MOST 1048576: true; the input reads as it did. -/
def ticksManyUptoRow : OpenClaim := { program := "ytflmbknimebmnaa", sum := "00ae63d4041747344e56d43e7f8113abcce1f883d82e5899320d6b6a2a131169", func := "escapement/escapementlaw01.TicksMany", spec := "ticksMany", unfollowed := true, recurses := true, apart := false, narrowed := true }
def TicksManyUptoSaid : Prop := ticksManyUptoRow.holds Try.pinned (OpenSpec.upto ticksManySpec)

/-- 'escapementlaw01.TicksBack', WHERE WHAT IT READS IS OF BULK AT MOST 1048576: true; the input reads as it did. -/
def ticksBackUptoRow : OpenClaim := { program := "ytflmbknimebmnaa", sum := "00ae63d4041747344e56d43e7f8113abcce1f883d82e5899320d6b6a2a131169", func := "escapement/escapementlaw01.TicksBack", spec := "ticksBack", unfollowed := true, recurses := true, apart := false, narrowed := true }
def TicksBackUptoSaid : Prop := ticksBackUptoRow.holds Try.pinned (OpenSpec.upto ticksBackSpec)

/-- 'escapementlaw01.TicksDivide', WHERE WHAT IT READS IS OF BULK AT MOST 1048576: true; the input reads as it did. -/
def ticksDivideUptoRow : OpenClaim := { program := "ytflmbknimebmnaa", sum := "00ae63d4041747344e56d43e7f8113abcce1f883d82e5899320d6b6a2a131169", func := "escapement/escapementlaw01.TicksDivide", spec := "ticksDivide", unfollowed := true, recurses := true, apart := false, narrowed := true }
def TicksDivideUptoSaid : Prop := ticksDivideUptoRow.holds Try.pinned (OpenSpec.upto ticksDivideSpec)

/-- 'escapementlaw01.TicksAll', WHERE WHAT IT READS IS OF BULK AT MOST 1048576: true; the input reads as it did. -/
def ticksAllUptoRow : OpenClaim := { program := "ytflmbknimebmnaa", sum := "00ae63d4041747344e56d43e7f8113abcce1f883d82e5899320d6b6a2a131169", func := "escapement/escapementlaw01.TicksAll", spec := "ticksAll", unfollowed := true, recurses := true, apart := false, narrowed := true }
def TicksAllUptoSaid : Prop := ticksAllUptoRow.holds Try.pinned (OpenSpec.upto ticksAllSpec)

/-- 'escapementlaw01.TicksKnown', WHERE WHAT IT READS IS OF BULK AT MOST 1048576: true; the input reads as it did. -/
def ticksKnownUptoRow : OpenClaim := { program := "ytflmbknimebmnaa", sum := "00ae63d4041747344e56d43e7f8113abcce1f883d82e5899320d6b6a2a131169", func := "escapement/escapementlaw01.TicksKnown", spec := "ticksKnown", unfollowed := true, recurses := true, apart := false, narrowed := true }
def TicksKnownUptoSaid : Prop := ticksKnownUptoRow.holds Try.pinned (OpenSpec.upto ticksKnownSpec)

end Rows
end Go.Proofs.Ytflmbknimebmnaa
