/-
  No cell of these rows narrows 'for every input' (looked for: loops, veiled, ifaces, maps, wideKeys, modest, calm, conditions, laid).
  DERIVED. THE GIVEN ROWS OF THIS SEAT. 10 by the template 'for every input the law returns true; each argument reads behind the call as it read before'; 0 by the template 'total and deterministic' (their statements: YtbmnehpppegecaaTotals.lean).
  GIVEN WITH THE SEED: the statements are not yours to turn. If you find one false, say at which input.
  Laid BY PROGRAM, IN A SANDBOX (cutbox-rows.mjs): the forced cells as the released guide's own fill.sh prints them over the translation 4648cc8f44e2a518… (all of the seat's roots in one cut). By AI agents, Wed Nov 11 2026. No macro, syntax, notation, axiom, sorry.
-/
import Derived.Test.YtbmnehpppegecaaChecked
import GoSem.Claim
import GoSem.ClaimJoined
import GoSem.ClaimMapViews
import Derived.JoinedTies
import Derived.KernelRfl
namespace Go.Proofs.Ytbmnehpppegecaa
/- THE CELL 'sum', in the pinned program and in every row, IS THE sha256 OF THE DUMP (.gsa) THAT YtbmnehpppegecaaProg.lean LOADS. Nothing in Lean hashes anything: it is a label: what it is worth is what the hold of that sum in a sandbox is worth. -/
noncomputable def Try.pinned : Pinned := { name := "ytbmnehpppegecaa", sum := "4648cc8f44e2a51818d6f2bca00407e875b51bf02e6fe3e1e94072937626f1c6", checked := Try.checked }
namespace Rows
def none {H : Type} : Left H := { results := [], args := [] }

/-- 'escapementlaw09.DelayWaits': WHATEVER THE INPUT: true; the input reads as it did. -/
def delayWaitsSpec : ChangeSpec := { name := "delayWaits", fn := fun _ => fun
  | [d1, d2, d3] => { results := [.lit (.bool true)], args := [d1, d2, d3] }
  | _ => none }
def delayWaitsRow : OpenClaim := { program := "ytbmnehpppegecaa", sum := "4648cc8f44e2a51818d6f2bca00407e875b51bf02e6fe3e1e94072937626f1c6", func := "escapement/escapementlaw09.DelayWaits", spec := "delayWaits", unfollowed := true, recurses := true, apart := false }
def DelayWaitsSaid : Prop := delayWaitsRow.holds Try.pinned (OpenSpec.ofChange delayWaitsSpec)

/-- ITS FALSE NEIGHBOUR: 'it returns false'. Refute it at one input. -/
def delayWaitsWrong : ChangeSpec := { name := "delayWaits", fn := fun _ => fun
  | [d1, d2, d3] => { results := [.lit (.bool false)], args := [d1, d2, d3] }
  | _ => none }
def DelayWaitsWrongFalsely : Prop := delayWaitsRow.holds Try.pinned (OpenSpec.ofChange delayWaitsWrong)

/-- 'escapementlaw09.DelayOf': WHATEVER THE INPUT: true; the input reads as it did. -/
def delayOfSpec : ChangeSpec := { name := "delayOf", fn := fun _ => fun
  | [d1, d2, d3] => { results := [.lit (.bool true)], args := [d1, d2, d3] }
  | _ => none }
def delayOfRow : OpenClaim := { program := "ytbmnehpppegecaa", sum := "4648cc8f44e2a51818d6f2bca00407e875b51bf02e6fe3e1e94072937626f1c6", func := "escapement/escapementlaw09.DelayOf", spec := "delayOf", unfollowed := true, recurses := true, apart := false }
def DelayOfSaid : Prop := delayOfRow.holds Try.pinned (OpenSpec.ofChange delayOfSpec)

/-- ITS FALSE NEIGHBOUR: 'it returns false'. Refute it at one input. -/
def delayOfWrong : ChangeSpec := { name := "delayOf", fn := fun _ => fun
  | [d1, d2, d3] => { results := [.lit (.bool false)], args := [d1, d2, d3] }
  | _ => none }
def DelayOfWrongFalsely : Prop := delayOfRow.holds Try.pinned (OpenSpec.ofChange delayOfWrong)

/-- 'escapementlaw09.DelayGrows': WHATEVER THE INPUT: true; the input reads as it did. -/
def delayGrowsSpec : ChangeSpec := { name := "delayGrows", fn := fun _ => fun
  | [d1, d2, d3] => { results := [.lit (.bool true)], args := [d1, d2, d3] }
  | _ => none }
def delayGrowsRow : OpenClaim := { program := "ytbmnehpppegecaa", sum := "4648cc8f44e2a51818d6f2bca00407e875b51bf02e6fe3e1e94072937626f1c6", func := "escapement/escapementlaw09.DelayGrows", spec := "delayGrows", unfollowed := true, recurses := true, apart := false }
def DelayGrowsSaid : Prop := delayGrowsRow.holds Try.pinned (OpenSpec.ofChange delayGrowsSpec)

/-- ITS FALSE NEIGHBOUR: 'it returns false'. Refute it at one input. -/
def delayGrowsWrong : ChangeSpec := { name := "delayGrows", fn := fun _ => fun
  | [d1, d2, d3] => { results := [.lit (.bool false)], args := [d1, d2, d3] }
  | _ => none }
def DelayGrowsWrongFalsely : Prop := delayGrowsRow.holds Try.pinned (OpenSpec.ofChange delayGrowsWrong)

/-- 'escapementlaw09.DelayFalls': WHATEVER THE INPUT: true; the input reads as it did. -/
def delayFallsSpec : ChangeSpec := { name := "delayFalls", fn := fun _ => fun
  | [d1, d2, d3] => { results := [.lit (.bool true)], args := [d1, d2, d3] }
  | _ => none }
def delayFallsRow : OpenClaim := { program := "ytbmnehpppegecaa", sum := "4648cc8f44e2a51818d6f2bca00407e875b51bf02e6fe3e1e94072937626f1c6", func := "escapement/escapementlaw09.DelayFalls", spec := "delayFalls", unfollowed := true, recurses := true, apart := false }
def DelayFallsSaid : Prop := delayFallsRow.holds Try.pinned (OpenSpec.ofChange delayFallsSpec)

/-- ITS FALSE NEIGHBOUR: 'it returns false'. Refute it at one input. -/
def delayFallsWrong : ChangeSpec := { name := "delayFalls", fn := fun _ => fun
  | [d1, d2, d3] => { results := [.lit (.bool false)], args := [d1, d2, d3] }
  | _ => none }
def DelayFallsWrongFalsely : Prop := delayFallsRow.holds Try.pinned (OpenSpec.ofChange delayFallsWrong)

/-- 'escapementlaw09.DelayNames': WHATEVER THE INPUT: true; the input reads as it did. -/
def delayNamesSpec : ChangeSpec := { name := "delayNames", fn := fun _ => fun
  | [] => { results := [.lit (.bool true)], args := [] }
  | _ => none }
def delayNamesRow : OpenClaim := { program := "ytbmnehpppegecaa", sum := "4648cc8f44e2a51818d6f2bca00407e875b51bf02e6fe3e1e94072937626f1c6", func := "escapement/escapementlaw09.DelayNames", spec := "delayNames", unfollowed := true, recurses := true, apart := false }
def DelayNamesSaid : Prop := delayNamesRow.holds Try.pinned (OpenSpec.ofChange delayNamesSpec)

/-- ITS FALSE NEIGHBOUR: 'it returns false'. Refute it at one input. -/
def delayNamesWrong : ChangeSpec := { name := "delayNames", fn := fun _ => fun
  | [] => { results := [.lit (.bool false)], args := [] }
  | _ => none }
def DelayNamesWrongFalsely : Prop := delayNamesRow.holds Try.pinned (OpenSpec.ofChange delayNamesWrong)

/-- 'escapementlaw08.DemandOf': WHATEVER THE INPUT: true; the input reads as it did. -/
def demandOfSpec : ChangeSpec := { name := "demandOf", fn := fun _ => fun
  | [d1, d2, d3] => { results := [.lit (.bool true)], args := [d1, d2, d3] }
  | _ => none }
def demandOfRow : OpenClaim := { program := "ytbmnehpppegecaa", sum := "4648cc8f44e2a51818d6f2bca00407e875b51bf02e6fe3e1e94072937626f1c6", func := "escapement/escapementlaw08.DemandOf", spec := "demandOf", unfollowed := true, recurses := true, apart := false }
def DemandOfSaid : Prop := demandOfRow.holds Try.pinned (OpenSpec.ofChange demandOfSpec)

/-- ITS FALSE NEIGHBOUR: 'it returns false'. Refute it at one input. -/
def demandOfWrong : ChangeSpec := { name := "demandOf", fn := fun _ => fun
  | [d1, d2, d3] => { results := [.lit (.bool false)], args := [d1, d2, d3] }
  | _ => none }
def DemandOfWrongFalsely : Prop := demandOfRow.holds Try.pinned (OpenSpec.ofChange demandOfWrong)

/-- 'escapementlaw08.DemandUse': WHATEVER THE INPUT: true; the input reads as it did. -/
def demandUseSpec : ChangeSpec := { name := "demandUse", fn := fun _ => fun
  | [d1, d2, d3] => { results := [.lit (.bool true)], args := [d1, d2, d3] }
  | _ => none }
def demandUseRow : OpenClaim := { program := "ytbmnehpppegecaa", sum := "4648cc8f44e2a51818d6f2bca00407e875b51bf02e6fe3e1e94072937626f1c6", func := "escapement/escapementlaw08.DemandUse", spec := "demandUse", unfollowed := true, recurses := true, apart := false }
def DemandUseSaid : Prop := demandUseRow.holds Try.pinned (OpenSpec.ofChange demandUseSpec)

/-- ITS FALSE NEIGHBOUR: 'it returns false'. Refute it at one input. -/
def demandUseWrong : ChangeSpec := { name := "demandUse", fn := fun _ => fun
  | [d1, d2, d3] => { results := [.lit (.bool false)], args := [d1, d2, d3] }
  | _ => none }
def DemandUseWrongFalsely : Prop := demandUseRow.holds Try.pinned (OpenSpec.ofChange demandUseWrong)

/-- 'escapementlaw08.DemandSound': WHATEVER THE INPUT: true; the input reads as it did. -/
def demandSoundSpec : ChangeSpec := { name := "demandSound", fn := fun _ => fun
  | [d1, d2, d3] => { results := [.lit (.bool true)], args := [d1, d2, d3] }
  | _ => none }
def demandSoundRow : OpenClaim := { program := "ytbmnehpppegecaa", sum := "4648cc8f44e2a51818d6f2bca00407e875b51bf02e6fe3e1e94072937626f1c6", func := "escapement/escapementlaw08.DemandSound", spec := "demandSound", unfollowed := true, recurses := true, apart := false }
def DemandSoundSaid : Prop := demandSoundRow.holds Try.pinned (OpenSpec.ofChange demandSoundSpec)

/-- ITS FALSE NEIGHBOUR: 'it returns false'. Refute it at one input. -/
def demandSoundWrong : ChangeSpec := { name := "demandSound", fn := fun _ => fun
  | [d1, d2, d3] => { results := [.lit (.bool false)], args := [d1, d2, d3] }
  | _ => none }
def DemandSoundWrongFalsely : Prop := demandSoundRow.holds Try.pinned (OpenSpec.ofChange demandSoundWrong)

/-- 'escapementlaw08.DemandMore': WHATEVER THE INPUT: true; the input reads as it did. -/
def demandMoreSpec : ChangeSpec := { name := "demandMore", fn := fun _ => fun
  | [d1, d2, d3] => { results := [.lit (.bool true)], args := [d1, d2, d3] }
  | _ => none }
def demandMoreRow : OpenClaim := { program := "ytbmnehpppegecaa", sum := "4648cc8f44e2a51818d6f2bca00407e875b51bf02e6fe3e1e94072937626f1c6", func := "escapement/escapementlaw08.DemandMore", spec := "demandMore", unfollowed := true, recurses := true, apart := false }
def DemandMoreSaid : Prop := demandMoreRow.holds Try.pinned (OpenSpec.ofChange demandMoreSpec)

/-- ITS FALSE NEIGHBOUR: 'it returns false'. Refute it at one input. -/
def demandMoreWrong : ChangeSpec := { name := "demandMore", fn := fun _ => fun
  | [d1, d2, d3] => { results := [.lit (.bool false)], args := [d1, d2, d3] }
  | _ => none }
def DemandMoreWrongFalsely : Prop := demandMoreRow.holds Try.pinned (OpenSpec.ofChange demandMoreWrong)

/-- 'escapementlaw08.DemandNames': WHATEVER THE INPUT: true; the input reads as it did. -/
def demandNamesSpec : ChangeSpec := { name := "demandNames", fn := fun _ => fun
  | [] => { results := [.lit (.bool true)], args := [] }
  | _ => none }
def demandNamesRow : OpenClaim := { program := "ytbmnehpppegecaa", sum := "4648cc8f44e2a51818d6f2bca00407e875b51bf02e6fe3e1e94072937626f1c6", func := "escapement/escapementlaw08.DemandNames", spec := "demandNames", unfollowed := true, recurses := true, apart := false }
def DemandNamesSaid : Prop := demandNamesRow.holds Try.pinned (OpenSpec.ofChange demandNamesSpec)

/-- ITS FALSE NEIGHBOUR: 'it returns false'. Refute it at one input. -/
def demandNamesWrong : ChangeSpec := { name := "demandNames", fn := fun _ => fun
  | [] => { results := [.lit (.bool false)], args := [] }
  | _ => none }
def DemandNamesWrongFalsely : Prop := demandNamesRow.holds Try.pinned (OpenSpec.ofChange demandNamesWrong)

/- THE SECOND FORM. 'bulk': how many values and letters a reading holds, each counted each time it is reached (what is shared counts as often as it is met; a slice's spare places count too). A statement '..UptoSaid' is the law's where the arguments, and the package variables that the reading takes, are together of bulk at most 1048576: NARROWER than '..Said'. Prove '..Said' where nothing that the law and all that it calls make is longer than what came in: it says more and counts as full. Else prove '..UptoSaid'. A law counts once. -/
mutual
def uptoBulk {H : Type} : DataW H → Nat
  | .lit (.string bytes) => bytes.length + 1
  | .lit _ => 1
  | .nil => 1
  | .ptr d => uptoBulk d + 1
  | .slice elems spare => uptoBulkAll elems + uptoBulkAll spare + 1
  | .agg parts => uptoBulkAll parts + 1
  | .iface _ d => uptoBulk d + 1
  | .map entries => uptoBulkEntries entries + 1
  | .held _ => 1
def uptoBulkAll {H : Type} : List (DataW H) → Nat
  | [] => 0
  | d :: r => uptoBulk d + uptoBulkAll r
def uptoBulkEntries {H : Type} : List (Lit × DataW H) → Nat
  | [] => 0
  | x :: r => uptoBulkEntry x + uptoBulkEntries r
def uptoBulkEntry {H : Type} : Lit × DataW H → Nat
  | (.string bytes, d) => bytes.length + uptoBulk d + 1
  | (_, d) => uptoBulk d + 1
 end
def uptoSmall : (H : Type) → List (DataW H) → Bool := fun _ ds => decide (uptoBulkAll ds ≤ 1048576)
def OpenSpec.upto (s : _root_.Go.ChangeSpec) : _root_.Go.OpenSpec := { _root_.Go.OpenSpec.ofChange s with cond := some uptoSmall }

/-- 'escapementlaw09.DelayWaits', WHERE WHAT IT READS IS OF BULK AT MOST 1048576: true; the input reads as it did. -/
def delayWaitsUptoRow : OpenClaim := { program := "ytbmnehpppegecaa", sum := "4648cc8f44e2a51818d6f2bca00407e875b51bf02e6fe3e1e94072937626f1c6", func := "escapement/escapementlaw09.DelayWaits", spec := "delayWaits", unfollowed := true, recurses := true, apart := false, narrowed := true }
def DelayWaitsUptoSaid : Prop := delayWaitsUptoRow.holds Try.pinned (OpenSpec.upto delayWaitsSpec)

/-- 'escapementlaw09.DelayOf', WHERE WHAT IT READS IS OF BULK AT MOST 1048576: true; the input reads as it did. -/
def delayOfUptoRow : OpenClaim := { program := "ytbmnehpppegecaa", sum := "4648cc8f44e2a51818d6f2bca00407e875b51bf02e6fe3e1e94072937626f1c6", func := "escapement/escapementlaw09.DelayOf", spec := "delayOf", unfollowed := true, recurses := true, apart := false, narrowed := true }
def DelayOfUptoSaid : Prop := delayOfUptoRow.holds Try.pinned (OpenSpec.upto delayOfSpec)

/-- 'escapementlaw09.DelayGrows', WHERE WHAT IT READS IS OF BULK AT MOST 1048576: true; the input reads as it did. -/
def delayGrowsUptoRow : OpenClaim := { program := "ytbmnehpppegecaa", sum := "4648cc8f44e2a51818d6f2bca00407e875b51bf02e6fe3e1e94072937626f1c6", func := "escapement/escapementlaw09.DelayGrows", spec := "delayGrows", unfollowed := true, recurses := true, apart := false, narrowed := true }
def DelayGrowsUptoSaid : Prop := delayGrowsUptoRow.holds Try.pinned (OpenSpec.upto delayGrowsSpec)

/-- 'escapementlaw09.DelayFalls', WHERE WHAT IT READS IS OF BULK AT MOST 1048576: true; the input reads as it did. -/
def delayFallsUptoRow : OpenClaim := { program := "ytbmnehpppegecaa", sum := "4648cc8f44e2a51818d6f2bca00407e875b51bf02e6fe3e1e94072937626f1c6", func := "escapement/escapementlaw09.DelayFalls", spec := "delayFalls", unfollowed := true, recurses := true, apart := false, narrowed := true }
def DelayFallsUptoSaid : Prop := delayFallsUptoRow.holds Try.pinned (OpenSpec.upto delayFallsSpec)

/-- 'escapementlaw09.DelayNames', WHERE WHAT IT READS IS OF BULK AT MOST 1048576: true; the input reads as it did. -/
def delayNamesUptoRow : OpenClaim := { program := "ytbmnehpppegecaa", sum := "4648cc8f44e2a51818d6f2bca00407e875b51bf02e6fe3e1e94072937626f1c6", func := "escapement/escapementlaw09.DelayNames", spec := "delayNames", unfollowed := true, recurses := true, apart := false, narrowed := true }
def DelayNamesUptoSaid : Prop := delayNamesUptoRow.holds Try.pinned (OpenSpec.upto delayNamesSpec)

/-- 'escapementlaw08.DemandOf', WHERE WHAT IT READS IS OF BULK AT MOST 1048576: true; the input reads as it did. -/
def demandOfUptoRow : OpenClaim := { program := "ytbmnehpppegecaa", sum := "4648cc8f44e2a51818d6f2bca00407e875b51bf02e6fe3e1e94072937626f1c6", func := "escapement/escapementlaw08.DemandOf", spec := "demandOf", unfollowed := true, recurses := true, apart := false, narrowed := true }
def DemandOfUptoSaid : Prop := demandOfUptoRow.holds Try.pinned (OpenSpec.upto demandOfSpec)

/-- 'escapementlaw08.DemandUse', WHERE WHAT IT READS IS OF BULK AT MOST 1048576: true; the input reads as it did. -/
def demandUseUptoRow : OpenClaim := { program := "ytbmnehpppegecaa", sum := "4648cc8f44e2a51818d6f2bca00407e875b51bf02e6fe3e1e94072937626f1c6", func := "escapement/escapementlaw08.DemandUse", spec := "demandUse", unfollowed := true, recurses := true, apart := false, narrowed := true }
def DemandUseUptoSaid : Prop := demandUseUptoRow.holds Try.pinned (OpenSpec.upto demandUseSpec)

/-- 'escapementlaw08.DemandSound', WHERE WHAT IT READS IS OF BULK AT MOST 1048576: true; the input reads as it did. -/
def demandSoundUptoRow : OpenClaim := { program := "ytbmnehpppegecaa", sum := "4648cc8f44e2a51818d6f2bca00407e875b51bf02e6fe3e1e94072937626f1c6", func := "escapement/escapementlaw08.DemandSound", spec := "demandSound", unfollowed := true, recurses := true, apart := false, narrowed := true }
def DemandSoundUptoSaid : Prop := demandSoundUptoRow.holds Try.pinned (OpenSpec.upto demandSoundSpec)

/-- 'escapementlaw08.DemandMore', WHERE WHAT IT READS IS OF BULK AT MOST 1048576: true; the input reads as it did. -/
def demandMoreUptoRow : OpenClaim := { program := "ytbmnehpppegecaa", sum := "4648cc8f44e2a51818d6f2bca00407e875b51bf02e6fe3e1e94072937626f1c6", func := "escapement/escapementlaw08.DemandMore", spec := "demandMore", unfollowed := true, recurses := true, apart := false, narrowed := true }
def DemandMoreUptoSaid : Prop := demandMoreUptoRow.holds Try.pinned (OpenSpec.upto demandMoreSpec)

/-- 'escapementlaw08.DemandNames', WHERE WHAT IT READS IS OF BULK AT MOST 1048576: true; the input reads as it did. -/
def demandNamesUptoRow : OpenClaim := { program := "ytbmnehpppegecaa", sum := "4648cc8f44e2a51818d6f2bca00407e875b51bf02e6fe3e1e94072937626f1c6", func := "escapement/escapementlaw08.DemandNames", spec := "demandNames", unfollowed := true, recurses := true, apart := false, narrowed := true }
def DemandNamesUptoSaid : Prop := demandNamesUptoRow.holds Try.pinned (OpenSpec.upto demandNamesSpec)

end Rows
end Go.Proofs.Ytbmnehpppegecaa
