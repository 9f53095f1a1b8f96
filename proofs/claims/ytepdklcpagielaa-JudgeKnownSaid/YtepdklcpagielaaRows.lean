/-
  No cell of these rows narrows 'for every input' (looked for: loops, veiled, ifaces, maps, wideKeys, modest, calm, conditions, laid).
  DERIVED. THE GIVEN ROWS OF THIS SEAT. 6 by the template 'for every input the law returns true; each argument reads behind the call as it read before'; 0 by the template 'total and deterministic' (their statements: YtepdklcpagielaaTotals.lean).
  GIVEN WITH THE SEED: the statements are not yours to turn. If you find one false, say at which input.
  Laid BY PROGRAM, IN A SANDBOX (cutbox-rows.mjs): the forced cells as the released guide's own fill.sh prints them over the translation 3defeef6d0806ff6… (all of the seat's roots in one cut). By AI agents, Wed Nov 11 2026. No macro, syntax, notation, axiom, sorry.
-/
import Derived.Test.YtepdklcpagielaaChecked
import GoSem.Claim
import GoSem.ClaimJoined
import GoSem.ClaimMapViews
import Derived.JoinedTies
import Derived.KernelRfl
namespace Go.Proofs.Ytepdklcpagielaa
/- THE CELL 'sum', in the pinned program and in every row, IS THE sha256 OF THE DUMP (.gsa) THAT YtepdklcpagielaaProg.lean LOADS. Nothing in Lean hashes anything: it is a label: what it is worth is what the hold of that sum in a sandbox is worth. -/
noncomputable def Try.pinned : Pinned := { name := "ytepdklcpagielaa", sum := "3defeef6d0806ff6373f466360d8e5a0b4212b722bf62d21647d7e90dd5f48c2", checked := Try.checked }
namespace Rows
def none {H : Type} : Left H := { results := [], args := [] }

/-- 'escapementlaw29.GaugeNames': WHATEVER THE INPUT: true; the input reads as it did. -/
def gaugeNamesSpec : ChangeSpec := { name := "gaugeNames", fn := fun _ => fun
  | [] => { results := [.lit (.bool true)], args := [] }
  | _ => none }
def gaugeNamesRow : OpenClaim := { program := "ytepdklcpagielaa", sum := "3defeef6d0806ff6373f466360d8e5a0b4212b722bf62d21647d7e90dd5f48c2", func := "escapement/escapementlaw29.GaugeNames", spec := "gaugeNames", unfollowed := true, recurses := true, apart := false }
def GaugeNamesSaid : Prop := gaugeNamesRow.holds Try.pinned (OpenSpec.ofChange gaugeNamesSpec)

/-- ITS FALSE NEIGHBOUR: 'it returns false'. Refute it at one input. -/
def gaugeNamesWrong : ChangeSpec := { name := "gaugeNames", fn := fun _ => fun
  | [] => { results := [.lit (.bool false)], args := [] }
  | _ => none }
def GaugeNamesWrongFalsely : Prop := gaugeNamesRow.holds Try.pinned (OpenSpec.ofChange gaugeNamesWrong)

/-- 'escapementlaw26.JudgeFinds': WHATEVER THE INPUT: true; the input reads as it did. -/
def judgeFindsSpec : ChangeSpec := { name := "judgeFinds", fn := fun _ => fun
  | [d1, d2, d3] => { results := [.lit (.bool true)], args := [d1, d2, d3] }
  | _ => none }
def judgeFindsRow : OpenClaim := { program := "ytepdklcpagielaa", sum := "3defeef6d0806ff6373f466360d8e5a0b4212b722bf62d21647d7e90dd5f48c2", func := "escapement/escapementlaw26.JudgeFinds", spec := "judgeFinds", unfollowed := true, recurses := true, apart := false }
def JudgeFindsSaid : Prop := judgeFindsRow.holds Try.pinned (OpenSpec.ofChange judgeFindsSpec)

/-- ITS FALSE NEIGHBOUR: 'it returns false'. Refute it at one input. -/
def judgeFindsWrong : ChangeSpec := { name := "judgeFinds", fn := fun _ => fun
  | [d1, d2, d3] => { results := [.lit (.bool false)], args := [d1, d2, d3] }
  | _ => none }
def JudgeFindsWrongFalsely : Prop := judgeFindsRow.holds Try.pinned (OpenSpec.ofChange judgeFindsWrong)

/-- 'escapementlaw26.JudgeAhead': WHATEVER THE INPUT: true; the input reads as it did. -/
def judgeAheadSpec : ChangeSpec := { name := "judgeAhead", fn := fun _ => fun
  | [d1, d2, d3] => { results := [.lit (.bool true)], args := [d1, d2, d3] }
  | _ => none }
def judgeAheadRow : OpenClaim := { program := "ytepdklcpagielaa", sum := "3defeef6d0806ff6373f466360d8e5a0b4212b722bf62d21647d7e90dd5f48c2", func := "escapement/escapementlaw26.JudgeAhead", spec := "judgeAhead", unfollowed := true, recurses := true, apart := false }
def JudgeAheadSaid : Prop := judgeAheadRow.holds Try.pinned (OpenSpec.ofChange judgeAheadSpec)

/-- ITS FALSE NEIGHBOUR: 'it returns false'. Refute it at one input. -/
def judgeAheadWrong : ChangeSpec := { name := "judgeAhead", fn := fun _ => fun
  | [d1, d2, d3] => { results := [.lit (.bool false)], args := [d1, d2, d3] }
  | _ => none }
def JudgeAheadWrongFalsely : Prop := judgeAheadRow.holds Try.pinned (OpenSpec.ofChange judgeAheadWrong)

/-- 'escapementlaw26.JudgeCounts': WHATEVER THE INPUT: true; the input reads as it did. -/
def judgeCountsSpec : ChangeSpec := { name := "judgeCounts", fn := fun _ => fun
  | [d1, d2, d3] => { results := [.lit (.bool true)], args := [d1, d2, d3] }
  | _ => none }
def judgeCountsRow : OpenClaim := { program := "ytepdklcpagielaa", sum := "3defeef6d0806ff6373f466360d8e5a0b4212b722bf62d21647d7e90dd5f48c2", func := "escapement/escapementlaw26.JudgeCounts", spec := "judgeCounts", unfollowed := true, recurses := true, apart := false }
def JudgeCountsSaid : Prop := judgeCountsRow.holds Try.pinned (OpenSpec.ofChange judgeCountsSpec)

/-- ITS FALSE NEIGHBOUR: 'it returns false'. Refute it at one input. -/
def judgeCountsWrong : ChangeSpec := { name := "judgeCounts", fn := fun _ => fun
  | [d1, d2, d3] => { results := [.lit (.bool false)], args := [d1, d2, d3] }
  | _ => none }
def JudgeCountsWrongFalsely : Prop := judgeCountsRow.holds Try.pinned (OpenSpec.ofChange judgeCountsWrong)

/-- 'escapementlaw26.JudgeKnown': WHATEVER THE INPUT: true; the input reads as it did. -/
def judgeKnownSpec : ChangeSpec := { name := "judgeKnown", fn := fun _ => fun
  | [] => { results := [.lit (.bool true)], args := [] }
  | _ => none }
def judgeKnownRow : OpenClaim := { program := "ytepdklcpagielaa", sum := "3defeef6d0806ff6373f466360d8e5a0b4212b722bf62d21647d7e90dd5f48c2", func := "escapement/escapementlaw26.JudgeKnown", spec := "judgeKnown", unfollowed := true, recurses := true, apart := false }
def JudgeKnownSaid : Prop := judgeKnownRow.holds Try.pinned (OpenSpec.ofChange judgeKnownSpec)

/-- ITS FALSE NEIGHBOUR: 'it returns false'. Refute it at one input. -/
def judgeKnownWrong : ChangeSpec := { name := "judgeKnown", fn := fun _ => fun
  | [] => { results := [.lit (.bool false)], args := [] }
  | _ => none }
def JudgeKnownWrongFalsely : Prop := judgeKnownRow.holds Try.pinned (OpenSpec.ofChange judgeKnownWrong)

/-- 'escapementlaw30.TuneLeft': WHATEVER THE INPUT: true; the input reads as it did. -/
def tuneLeftSpec : ChangeSpec := { name := "tuneLeft", fn := fun _ => fun
  | [d1, d2] => { results := [.lit (.bool true)], args := [d1, d2] }
  | _ => none }
def tuneLeftRow : OpenClaim := { program := "ytepdklcpagielaa", sum := "3defeef6d0806ff6373f466360d8e5a0b4212b722bf62d21647d7e90dd5f48c2", func := "escapement/escapementlaw30.TuneLeft", spec := "tuneLeft", unfollowed := true, recurses := true, apart := false }
def TuneLeftSaid : Prop := tuneLeftRow.holds Try.pinned (OpenSpec.ofChange tuneLeftSpec)

/-- ITS FALSE NEIGHBOUR: 'it returns false'. Refute it at one input. -/
def tuneLeftWrong : ChangeSpec := { name := "tuneLeft", fn := fun _ => fun
  | [d1, d2] => { results := [.lit (.bool false)], args := [d1, d2] }
  | _ => none }
def TuneLeftWrongFalsely : Prop := tuneLeftRow.holds Try.pinned (OpenSpec.ofChange tuneLeftWrong)

/- THE SECOND FORM. 'bulk': how many values and letters a reading holds, each counted each time it is reached (what is shared counts as often as it is met; a slice's spare places count too). A statement '..UptoSaid' is the law's where the arguments, and the package variables that the reading takes, are together of bulk at most 1048576: NARROWER than '..Said'. Prove '..Said' where nothing that the law and all that it calls make is longer than what came in: it says more and counts as full. Else prove '..UptoSaid'. A law counts once. -/
mutual
def uptoBulk {H : Type} : DataW H → Nat
  | .lit (.string bytes) => bytes.length + 1
  | .lit _ => 1
  | .nil => 1
  | .ptr d => uptoBulk d + 1
  | .slice elems spare => uptoBulkAll elems + uptoBulkAll spare + 1
  | .agg parts => uptoBulkAll parts + 1
  | .iface _ d => uptoBulk d + 1
  | .map entries => uptoBulkEntries entries + 1
  | .held _ => 1
def uptoBulkAll {H : Type} : List (DataW H) → Nat
  | [] => 0
  | d :: r => uptoBulk d + uptoBulkAll r
def uptoBulkEntries {H : Type} : List (Lit × DataW H) → Nat
  | [] => 0
  | x :: r => uptoBulkEntry x + uptoBulkEntries r
def uptoBulkEntry {H : Type} : Lit × DataW H → Nat
  | (.string bytes, d) => bytes.length + uptoBulk d + 1
  | (_, d) => uptoBulk d + 1
 end
def uptoSmall : (H : Type) → List (DataW H) → Bool := fun _ ds => decide (uptoBulkAll ds ≤ 1048576)
def OpenSpec.upto (s : _root_.Go.ChangeSpec) : _root_.Go.OpenSpec := { _root_.Go.OpenSpec.ofChange s with cond := some uptoSmall }

/-- 'escapementlaw29.GaugeNames', WHERE WHAT IT READS IS OF BULK AT MOST 1048576: true; the input reads as it did. -/
def gaugeNamesUptoRow : OpenClaim := { program := "ytepdklcpagielaa", sum := "3defeef6d0806ff6373f466360d8e5a0b4212b722bf62d21647d7e90dd5f48c2", func := "escapement/escapementlaw29.GaugeNames", spec := "gaugeNames", unfollowed := true, recurses := true, apart := false, narrowed := true }
def GaugeNamesUptoSaid : Prop := gaugeNamesUptoRow.holds Try.pinned (OpenSpec.upto gaugeNamesSpec)

/-- 'escapementlaw26.JudgeFinds', WHERE WHAT IT READS IS OF BULK AT MOST 1048576: true; the input reads as it did. -/
def judgeFindsUptoRow : OpenClaim := { program := "ytepdklcpagielaa", sum := "3defeef6d0806ff6373f466360d8e5a0b4212b722bf62d21647d7e90dd5f48c2", func := "escapement/escapementlaw26.JudgeFinds", spec := "judgeFinds", unfollowed := true, recurses := true, apart := false, narrowed := true }
def JudgeFindsUptoSaid : Prop := judgeFindsUptoRow.holds Try.pinned (OpenSpec.upto judgeFindsSpec)

/-- 'escapementlaw26.JudgeAhead', WHERE WHAT IT READS IS OF BULK AT MOST 1048576: true; the input reads as it did. -/
def judgeAheadUptoRow : OpenClaim := { program := "ytepdklcpagielaa", sum := "3defeef6d0806ff6373f466360d8e5a0b4212b722bf62d21647d7e90dd5f48c2", func := "escapement/escapementlaw26.JudgeAhead", spec := "judgeAhead", unfollowed := true, recurses := true, apart := false, narrowed := true }
def JudgeAheadUptoSaid : Prop := judgeAheadUptoRow.holds Try.pinned (OpenSpec.upto judgeAheadSpec)

/-- 'escapementlaw26.JudgeCounts', WHERE WHAT IT READS IS OF BULK AT MOST 1048576: true; the input reads as it did. -/
def judgeCountsUptoRow : OpenClaim := { program := "ytepdklcpagielaa", sum := "3defeef6d0806ff6373f466360d8e5a0b4212b722bf62d21647d7e90dd5f48c2", func := "escapement/escapementlaw26.JudgeCounts", spec := "judgeCounts", unfollowed := true, recurses := true, apart := false, narrowed := true }
def JudgeCountsUptoSaid : Prop := judgeCountsUptoRow.holds Try.pinned (OpenSpec.upto judgeCountsSpec)

/-- 'escapementlaw26.JudgeKnown', WHERE WHAT IT READS IS OF BULK AT MOST 1048576: true; the input reads as it did. -/
def judgeKnownUptoRow : OpenClaim := { program := "ytepdklcpagielaa", sum := "3defeef6d0806ff6373f466360d8e5a0b4212b722bf62d21647d7e90dd5f48c2", func := "escapement/escapementlaw26.JudgeKnown", spec := "judgeKnown", unfollowed := true, recurses := true, apart := false, narrowed := true }
def JudgeKnownUptoSaid : Prop := judgeKnownUptoRow.holds Try.pinned (OpenSpec.upto judgeKnownSpec)

/-- 'escapementlaw30.TuneLeft', WHERE WHAT IT READS IS OF BULK AT MOST 1048576: true; the input reads as it did. -/
def tuneLeftUptoRow : OpenClaim := { program := "ytepdklcpagielaa", sum := "3defeef6d0806ff6373f466360d8e5a0b4212b722bf62d21647d7e90dd5f48c2", func := "escapement/escapementlaw30.TuneLeft", spec := "tuneLeft", unfollowed := true, recurses := true, apart := false, narrowed := true }
def TuneLeftUptoSaid : Prop := tuneLeftUptoRow.holds Try.pinned (OpenSpec.upto tuneLeftSpec)

end Rows
end Go.Proofs.Ytepdklcpagielaa
