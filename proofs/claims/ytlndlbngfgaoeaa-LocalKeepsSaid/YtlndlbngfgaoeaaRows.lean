/-
  No cell of these rows narrows 'for every input' (looked for: loops, veiled, ifaces, maps, wideKeys, modest, calm, conditions, laid).
  DERIVED. THE GIVEN ROWS OF THIS SEAT. 9 by the template 'for every input the law returns true; each argument reads behind the call as it read before'; 0 by the template 'total and deterministic' (their statements: YtlndlbngfgaoeaaTotals.lean).
  GIVEN WITH THE SEED: the statements are not yours to turn. If you find one false, say at which input.
  Laid BY PROGRAM, IN A SANDBOX (cutbox-rows.mjs): the forced cells as the released guide's own fill.sh prints them over the translation 7687a0e6f5235c26… (all of the seat's roots in one cut). By AI agents, Wed Nov 11 2026. No macro, syntax, notation, axiom, sorry.
-/
import Derived.Test.YtlndlbngfgaoeaaChecked
import GoSem.Claim
import GoSem.ClaimJoined
import GoSem.ClaimMapViews
import Derived.JoinedTies
import Derived.KernelRfl
namespace Go.Proofs.Ytlndlbngfgaoeaa
/- THE CELL 'sum', in the pinned program and in every row, IS THE sha256 OF THE DUMP (.gsa) THAT YtlndlbngfgaoeaaProg.lean LOADS. Nothing in Lean hashes anything: it is a label: what it is worth is what the hold of that sum in a sandbox is worth. -/
noncomputable def Try.pinned : Pinned := { name := "ytlndlbngfgaoeaa", sum := "7687a0e6f5235c267d35d586bd1ba4a1ae48354809d874bc154e953c3e786329", checked := Try.checked }
namespace Rows
def none {H : Type} : Left H := { results := [], args := [] }

/-- 'escapementlaw10.LocalAll': WHATEVER THE INPUT: true; the input reads as it did. -/
def localAllSpec : ChangeSpec := { name := "localAll", fn := fun _ => fun
  | [d1, d2, d3] => { results := [.lit (.bool true)], args := [d1, d2, d3] }
  | _ => none }
def localAllRow : OpenClaim := { program := "ytlndlbngfgaoeaa", sum := "7687a0e6f5235c267d35d586bd1ba4a1ae48354809d874bc154e953c3e786329", func := "escapement/escapementlaw10.LocalAll", spec := "localAll", unfollowed := true, recurses := true, apart := false }
def LocalAllSaid : Prop := localAllRow.holds Try.pinned (OpenSpec.ofChange localAllSpec)

/-- ITS FALSE NEIGHBOUR: 'it returns false'. Refute it at one input. -/
def localAllWrong : ChangeSpec := { name := "localAll", fn := fun _ => fun
  | [d1, d2, d3] => { results := [.lit (.bool false)], args := [d1, d2, d3] }
  | _ => none }
def LocalAllWrongFalsely : Prop := localAllRow.holds Try.pinned (OpenSpec.ofChange localAllWrong)

/-- 'escapementlaw10.LocalGrows': WHATEVER THE INPUT: true; the input reads as it did. -/
def localGrowsSpec : ChangeSpec := { name := "localGrows", fn := fun _ => fun
  | [d1, d2, d3] => { results := [.lit (.bool true)], args := [d1, d2, d3] }
  | _ => none }
def localGrowsRow : OpenClaim := { program := "ytlndlbngfgaoeaa", sum := "7687a0e6f5235c267d35d586bd1ba4a1ae48354809d874bc154e953c3e786329", func := "escapement/escapementlaw10.LocalGrows", spec := "localGrows", unfollowed := true, recurses := true, apart := false }
def LocalGrowsSaid : Prop := localGrowsRow.holds Try.pinned (OpenSpec.ofChange localGrowsSpec)

/-- ITS FALSE NEIGHBOUR: 'it returns false'. Refute it at one input. -/
def localGrowsWrong : ChangeSpec := { name := "localGrows", fn := fun _ => fun
  | [d1, d2, d3] => { results := [.lit (.bool false)], args := [d1, d2, d3] }
  | _ => none }
def LocalGrowsWrongFalsely : Prop := localGrowsRow.holds Try.pinned (OpenSpec.ofChange localGrowsWrong)

/-- 'escapementlaw10.LocalKeeps': WHATEVER THE INPUT: true; the input reads as it did. -/
def localKeepsSpec : ChangeSpec := { name := "localKeeps", fn := fun _ => fun
  | [d1, d2, d3] => { results := [.lit (.bool true)], args := [d1, d2, d3] }
  | _ => none }
def localKeepsRow : OpenClaim := { program := "ytlndlbngfgaoeaa", sum := "7687a0e6f5235c267d35d586bd1ba4a1ae48354809d874bc154e953c3e786329", func := "escapement/escapementlaw10.LocalKeeps", spec := "localKeeps", unfollowed := true, recurses := true, apart := false }
def LocalKeepsSaid : Prop := localKeepsRow.holds Try.pinned (OpenSpec.ofChange localKeepsSpec)

/-- ITS FALSE NEIGHBOUR: 'it returns false'. Refute it at one input. -/
def localKeepsWrong : ChangeSpec := { name := "localKeeps", fn := fun _ => fun
  | [d1, d2, d3] => { results := [.lit (.bool false)], args := [d1, d2, d3] }
  | _ => none }
def LocalKeepsWrongFalsely : Prop := localKeepsRow.holds Try.pinned (OpenSpec.ofChange localKeepsWrong)

/-- 'escapementlaw10.LocalNames': WHATEVER THE INPUT: true; the input reads as it did. -/
def localNamesSpec : ChangeSpec := { name := "localNames", fn := fun _ => fun
  | [] => { results := [.lit (.bool true)], args := [] }
  | _ => none }
def localNamesRow : OpenClaim := { program := "ytlndlbngfgaoeaa", sum := "7687a0e6f5235c267d35d586bd1ba4a1ae48354809d874bc154e953c3e786329", func := "escapement/escapementlaw10.LocalNames", spec := "localNames", unfollowed := true, recurses := true, apart := false }
def LocalNamesSaid : Prop := localNamesRow.holds Try.pinned (OpenSpec.ofChange localNamesSpec)

/-- ITS FALSE NEIGHBOUR: 'it returns false'. Refute it at one input. -/
def localNamesWrong : ChangeSpec := { name := "localNames", fn := fun _ => fun
  | [] => { results := [.lit (.bool false)], args := [] }
  | _ => none }
def LocalNamesWrongFalsely : Prop := localNamesRow.holds Try.pinned (OpenSpec.ofChange localNamesWrong)

/-- 'escapementlaw30.TuneLeft': WHATEVER THE INPUT: true; the input reads as it did. -/
def tuneLeftSpec : ChangeSpec := { name := "tuneLeft", fn := fun _ => fun
  | [d1, d2] => { results := [.lit (.bool true)], args := [d1, d2] }
  | _ => none }
def tuneLeftRow : OpenClaim := { program := "ytlndlbngfgaoeaa", sum := "7687a0e6f5235c267d35d586bd1ba4a1ae48354809d874bc154e953c3e786329", func := "escapement/escapementlaw30.TuneLeft", spec := "tuneLeft", unfollowed := true, recurses := true, apart := false }
def TuneLeftSaid : Prop := tuneLeftRow.holds Try.pinned (OpenSpec.ofChange tuneLeftSpec)

/-- ITS FALSE NEIGHBOUR: 'it returns false'. Refute it at one input. -/
def tuneLeftWrong : ChangeSpec := { name := "tuneLeft", fn := fun _ => fun
  | [d1, d2] => { results := [.lit (.bool false)], args := [d1, d2] }
  | _ => none }
def TuneLeftWrongFalsely : Prop := tuneLeftRow.holds Try.pinned (OpenSpec.ofChange tuneLeftWrong)

/-- 'escapementlaw30.TuneTight': WHATEVER THE INPUT: true; the input reads as it did. -/
def tuneTightSpec : ChangeSpec := { name := "tuneTight", fn := fun _ => fun
  | [d] => { results := [.lit (.bool true)], args := [d] }
  | _ => none }
def tuneTightRow : OpenClaim := { program := "ytlndlbngfgaoeaa", sum := "7687a0e6f5235c267d35d586bd1ba4a1ae48354809d874bc154e953c3e786329", func := "escapement/escapementlaw30.TuneTight", spec := "tuneTight", unfollowed := true, recurses := true, apart := false }
def TuneTightSaid : Prop := tuneTightRow.holds Try.pinned (OpenSpec.ofChange tuneTightSpec)

/-- ITS FALSE NEIGHBOUR: 'it returns false'. Refute it at one input. -/
def tuneTightWrong : ChangeSpec := { name := "tuneTight", fn := fun _ => fun
  | [d] => { results := [.lit (.bool false)], args := [d] }
  | _ => none }
def TuneTightWrongFalsely : Prop := tuneTightRow.holds Try.pinned (OpenSpec.ofChange tuneTightWrong)

/-- 'escapementlaw30.TuneShares': WHATEVER THE INPUT: true; the input reads as it did. -/
def tuneSharesSpec : ChangeSpec := { name := "tuneShares", fn := fun _ => fun
  | [d1, d2, d3] => { results := [.lit (.bool true)], args := [d1, d2, d3] }
  | _ => none }
def tuneSharesRow : OpenClaim := { program := "ytlndlbngfgaoeaa", sum := "7687a0e6f5235c267d35d586bd1ba4a1ae48354809d874bc154e953c3e786329", func := "escapement/escapementlaw30.TuneShares", spec := "tuneShares", unfollowed := true, recurses := true, apart := false }
def TuneSharesSaid : Prop := tuneSharesRow.holds Try.pinned (OpenSpec.ofChange tuneSharesSpec)

/-- ITS FALSE NEIGHBOUR: 'it returns false'. Refute it at one input. -/
def tuneSharesWrong : ChangeSpec := { name := "tuneShares", fn := fun _ => fun
  | [d1, d2, d3] => { results := [.lit (.bool false)], args := [d1, d2, d3] }
  | _ => none }
def TuneSharesWrongFalsely : Prop := tuneSharesRow.holds Try.pinned (OpenSpec.ofChange tuneSharesWrong)

/-- 'escapementlaw30.TuneNames': WHATEVER THE INPUT: true; the input reads as it did. -/
def tuneNamesSpec : ChangeSpec := { name := "tuneNames", fn := fun _ => fun
  | [] => { results := [.lit (.bool true)], args := [] }
  | _ => none }
def tuneNamesRow : OpenClaim := { program := "ytlndlbngfgaoeaa", sum := "7687a0e6f5235c267d35d586bd1ba4a1ae48354809d874bc154e953c3e786329", func := "escapement/escapementlaw30.TuneNames", spec := "tuneNames", unfollowed := true, recurses := true, apart := false }
def TuneNamesSaid : Prop := tuneNamesRow.holds Try.pinned (OpenSpec.ofChange tuneNamesSpec)

/-- ITS FALSE NEIGHBOUR: 'it returns false'. Refute it at one input. -/
def tuneNamesWrong : ChangeSpec := { name := "tuneNames", fn := fun _ => fun
  | [] => { results := [.lit (.bool false)], args := [] }
  | _ => none }
def TuneNamesWrongFalsely : Prop := tuneNamesRow.holds Try.pinned (OpenSpec.ofChange tuneNamesWrong)

/-- 'escapementlaw30.TuneGate': WHATEVER THE INPUT: true; the input reads as it did. -/
def tuneGateSpec : ChangeSpec := { name := "tuneGate", fn := fun _ => fun
  | [d] => { results := [.lit (.bool true)], args := [d] }
  | _ => none }
def tuneGateRow : OpenClaim := { program := "ytlndlbngfgaoeaa", sum := "7687a0e6f5235c267d35d586bd1ba4a1ae48354809d874bc154e953c3e786329", func := "escapement/escapementlaw30.TuneGate", spec := "tuneGate", unfollowed := true, recurses := true, apart := false }
def TuneGateSaid : Prop := tuneGateRow.holds Try.pinned (OpenSpec.ofChange tuneGateSpec)

/-- ITS FALSE NEIGHBOUR: 'it returns false'. Refute it at one input. -/
def tuneGateWrong : ChangeSpec := { name := "tuneGate", fn := fun _ => fun
  | [d] => { results := [.lit (.bool false)], args := [d] }
  | _ => none }
def TuneGateWrongFalsely : Prop := tuneGateRow.holds Try.pinned (OpenSpec.ofChange tuneGateWrong)

/- THE SECOND FORM. 'bulk': how many values and letters a reading holds, each counted each time it is reached (what is shared counts as often as it is met; a slice's spare places count too). A statement '..UptoSaid' is the law's where the arguments, and the package variables that the reading takes, are together of bulk at most 1048576: NARROWER than '..Said'. Prove '..Said' where nothing that the law and all that it calls make is longer than what came in: it says more and counts as full. Else prove '..UptoSaid'. A law counts once. -/
mutual
def uptoBulk {H : Type} : DataW H → Nat
  | .lit (.string bytes) => bytes.length + 1
  | .lit _ => 1
  | .nil => 1
  | .ptr d => uptoBulk d + 1
  | .slice elems spare => uptoBulkAll elems + uptoBulkAll spare + 1
  | .agg parts => uptoBulkAll parts + 1
  | .iface _ d => uptoBulk d + 1
  | .map entries => uptoBulkEntries entries + 1
  | .held _ => 1
def uptoBulkAll {H : Type} : List (DataW H) → Nat
  | [] => 0
  | d :: r => uptoBulk d + uptoBulkAll r
def uptoBulkEntries {H : Type} : List (Lit × DataW H) → Nat
  | [] => 0
  | x :: r => uptoBulkEntry x + uptoBulkEntries r
def uptoBulkEntry {H : Type} : Lit × DataW H → Nat
  | (.string bytes, d) => bytes.length + uptoBulk d + 1
  | (_, d) => uptoBulk d + 1
 end
def uptoSmall : (H : Type) → List (DataW H) → Bool := fun _ ds => decide (uptoBulkAll ds ≤ 1048576)
def OpenSpec.upto (s : _root_.Go.ChangeSpec) : _root_.Go.OpenSpec := { _root_.Go.OpenSpec.ofChange s with cond := some uptoSmall }

/-- 'escapementlaw10.LocalAll', WHERE WHAT IT READS IS OF BULK AT MOST 1048576: true; the input reads as it did. -/
def localAllUptoRow : OpenClaim := { program := "ytlndlbngfgaoeaa", sum := "7687a0e6f5235c267d35d586bd1ba4a1ae48354809d874bc154e953c3e786329", func := "escapement/escapementlaw10.LocalAll", spec := "localAll", unfollowed := true, recurses := true, apart := false, narrowed := true }
def LocalAllUptoSaid : Prop := localAllUptoRow.holds Try.pinned (OpenSpec.upto localAllSpec)

/-- 'escapementlaw10.LocalGrows', WHERE WHAT IT READS IS OF BULK AT MOST 1048576: true; the input reads as it did. -/
def localGrowsUptoRow : OpenClaim := { program := "ytlndlbngfgaoeaa", sum := "7687a0e6f5235c267d35d586bd1ba4a1ae48354809d874bc154e953c3e786329", func := "escapement/escapementlaw10.LocalGrows", spec := "localGrows", unfollowed := true, recurses := true, apart := false, narrowed := true }
def LocalGrowsUptoSaid : Prop := localGrowsUptoRow.holds Try.pinned (OpenSpec.upto localGrowsSpec)

/-- 'escapementlaw10.LocalKeeps', WHERE WHAT IT READS IS OF BULK AT MOST 1048576: true; the input reads as it did. -/
def localKeepsUptoRow : OpenClaim := { program := "ytlndlbngfgaoeaa", sum := "7687a0e6f5235c267d35d586bd1ba4a1ae48354809d874bc154e953c3e786329", func := "escapement/escapementlaw10.LocalKeeps", spec := "localKeeps", unfollowed := true, recurses := true, apart := false, narrowed := true }
def LocalKeepsUptoSaid : Prop := localKeepsUptoRow.holds Try.pinned (OpenSpec.upto localKeepsSpec)

/-- 'escapementlaw10.LocalNames', WHERE WHAT IT READS IS OF BULK AT MOST 1048576: true; the input reads as it did. -/
def localNamesUptoRow : OpenClaim := { program := "ytlndlbngfgaoeaa", sum := "7687a0e6f5235c267d35d586bd1ba4a1ae48354809d874bc154e953c3e786329", func := "escapement/escapementlaw10.LocalNames", spec := "localNames", unfollowed := true, recurses := true, apart := false, narrowed := true }
def LocalNamesUptoSaid : Prop := localNamesUptoRow.holds Try.pinned (OpenSpec.upto localNamesSpec)

/-- 'escapementlaw30.TuneLeft', WHERE WHAT IT READS IS OF BULK AT MOST 1048576: true; the input reads as it did. -/
def tuneLeftUptoRow : OpenClaim := { program := "ytlndlbngfgaoeaa", sum := "7687a0e6f5235c267d35d586bd1ba4a1ae48354809d874bc154e953c3e786329", func := "escapement/escapementlaw30.TuneLeft", spec := "tuneLeft", unfollowed := true, recurses := true, apart := false, narrowed := true }
def TuneLeftUptoSaid : Prop := tuneLeftUptoRow.holds Try.pinned (OpenSpec.upto tuneLeftSpec)

/-- 'escapementlaw30.TuneTight', WHERE WHAT IT READS IS OF BULK AT MOST 1048576: true; the input reads as it did. -/
def tuneTightUptoRow : OpenClaim := { program := "ytlndlbngfgaoeaa", sum := "7687a0e6f5235c267d35d586bd1ba4a1ae48354809d874bc154e953c3e786329", func := "escapement/escapementlaw30.TuneTight", spec := "tuneTight", unfollowed := true, recurses := true, apart := false, narrowed := true }
def TuneTightUptoSaid : Prop := tuneTightUptoRow.holds Try.pinned (OpenSpec.upto tuneTightSpec)

/-- 'escapementlaw30.TuneShares', WHERE WHAT IT READS IS OF BULK AT MOST 1048576: true; the input reads as it did. -/
def tuneSharesUptoRow : OpenClaim := { program := "ytlndlbngfgaoeaa", sum := "7687a0e6f5235c267d35d586bd1ba4a1ae48354809d874bc154e953c3e786329", func := "escapement/escapementlaw30.TuneShares", spec := "tuneShares", unfollowed := true, recurses := true, apart := false, narrowed := true }
def TuneSharesUptoSaid : Prop := tuneSharesUptoRow.holds Try.pinned (OpenSpec.upto tuneSharesSpec)

/-- 'escapementlaw30.TuneNames', WHERE WHAT IT READS IS OF BULK AT MOST 1048576: true; the input reads as it did. -/
def tuneNamesUptoRow : OpenClaim := { program := "ytlndlbngfgaoeaa", sum := "7687a0e6f5235c267d35d586bd1ba4a1ae48354809d874bc154e953c3e786329", func := "escapement/escapementlaw30.TuneNames", spec := "tuneNames", unfollowed := true, recurses := true, apart := false, narrowed := true }
def TuneNamesUptoSaid : Prop := tuneNamesUptoRow.holds Try.pinned (OpenSpec.upto tuneNamesSpec)

/-- 'escapementlaw30.TuneGate', WHERE WHAT IT READS IS OF BULK AT MOST 1048576: true; the input reads as it did. -/
def tuneGateUptoRow : OpenClaim := { program := "ytlndlbngfgaoeaa", sum := "7687a0e6f5235c267d35d586bd1ba4a1ae48354809d874bc154e953c3e786329", func := "escapement/escapementlaw30.TuneGate", spec := "tuneGate", unfollowed := true, recurses := true, apart := false, narrowed := true }
def TuneGateUptoSaid : Prop := tuneGateUptoRow.holds Try.pinned (OpenSpec.upto tuneGateSpec)

end Rows
end Go.Proofs.Ytlndlbngfgaoeaa
