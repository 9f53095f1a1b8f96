/-
  No cell of these rows narrows 'for every input' (looked for: loops, veiled, ifaces, maps, wideKeys, modest, calm, conditions, laid).
  DERIVED. THE GIVEN ROWS OF THIS SEAT. 4 by the template 'for every input the law returns true; each argument reads behind the call as it read before'; 0 by the template 'total and deterministic' (their statements: YtmnolnoeibhjgaaGreatTotals.lean).
  GIVEN WITH THE SEED: the statements are not yours to turn. If you find one false, say at which input.
  Laid BY PROGRAM, IN A SANDBOX (cutbox-rows.mjs): the forced cells as the released guide's own fill.sh prints them over the translation d4056583c7e065e8… (all of the seat's roots in one cut). By AI agents, Wed Nov 11 2026. No macro, syntax, notation, axiom, sorry.
-/
import Derived.Test.YtmnolnoeibhjgaaGreatChecked
import GoSem.Claim
import GoSem.ClaimJoined
import GoSem.ClaimMapViews
import Derived.JoinedTies
import Derived.KernelRfl
namespace Go.Proofs.YtmnolnoeibhjgaaGreat
/- THE CELL 'sum', in the pinned program and in every row, IS THE sha256 OF THE DUMP (.gsa) THAT YtmnolnoeibhjgaaGreatProg.lean LOADS. Nothing in Lean hashes anything: it is a label: what it is worth is what the hold of that sum in a sandbox is worth. -/
noncomputable def Tryz.pinned : Pinned := { name := "ytmnolnoeibhjgaagreat", sum := "d4056583c7e065e8b3c5990ae039fa533ac80bda087bf2f1fee2f142cb23b815", checked := Tryz.checked }
namespace Rows
def none {H : Type} : Left H := { results := [], args := [] }

/-- 'escapementlaw28.TapeBytes': WHATEVER THE INPUT: true; the input reads as it did. -/
def tapeBytesSpec : ChangeSpec := { name := "tapeBytes", fn := fun _ => fun
  | [d] => { results := [.lit (.bool true)], args := [d] }
  | _ => none }
def tapeBytesRow : OpenClaim := { program := "ytmnolnoeibhjgaagreat", sum := "d4056583c7e065e8b3c5990ae039fa533ac80bda087bf2f1fee2f142cb23b815", func := "escapement/escapementlaw28.TapeBytes", spec := "tapeBytes", unfollowed := true, recurses := true, apart := false }
def TapeBytesSaid : Prop := tapeBytesRow.holds Tryz.pinned (OpenSpec.ofChange tapeBytesSpec)

/-- ITS FALSE NEIGHBOUR: 'it returns false'. Refute it at one input. -/
def tapeBytesWrong : ChangeSpec := { name := "tapeBytes", fn := fun _ => fun
  | [d] => { results := [.lit (.bool false)], args := [d] }
  | _ => none }
def TapeBytesWrongFalsely : Prop := tapeBytesRow.holds Tryz.pinned (OpenSpec.ofChange tapeBytesWrong)

/-- 'escapementlaw28.TapeParses': WHATEVER THE INPUT: true; the input reads as it did. -/
def tapeParsesSpec : ChangeSpec := { name := "tapeParses", fn := fun _ => fun
  | [d] => { results := [.lit (.bool true)], args := [d] }
  | _ => none }
def tapeParsesRow : OpenClaim := { program := "ytmnolnoeibhjgaagreat", sum := "d4056583c7e065e8b3c5990ae039fa533ac80bda087bf2f1fee2f142cb23b815", func := "escapement/escapementlaw28.TapeParses", spec := "tapeParses", unfollowed := true, recurses := true, apart := false }
def TapeParsesSaid : Prop := tapeParsesRow.holds Tryz.pinned (OpenSpec.ofChange tapeParsesSpec)

/-- ITS FALSE NEIGHBOUR: 'it returns false'. Refute it at one input. -/
def tapeParsesWrong : ChangeSpec := { name := "tapeParses", fn := fun _ => fun
  | [d] => { results := [.lit (.bool false)], args := [d] }
  | _ => none }
def TapeParsesWrongFalsely : Prop := tapeParsesRow.holds Tryz.pinned (OpenSpec.ofChange tapeParsesWrong)

/-- 'escapementlaw28.TapeBack': WHATEVER THE INPUT: true; the input reads as it did. -/
def tapeBackSpec : ChangeSpec := { name := "tapeBack", fn := fun _ => fun
  | [d] => { results := [.lit (.bool true)], args := [d] }
  | _ => none }
def tapeBackRow : OpenClaim := { program := "ytmnolnoeibhjgaagreat", sum := "d4056583c7e065e8b3c5990ae039fa533ac80bda087bf2f1fee2f142cb23b815", func := "escapement/escapementlaw28.TapeBack", spec := "tapeBack", unfollowed := true, recurses := true, apart := false }
def TapeBackSaid : Prop := tapeBackRow.holds Tryz.pinned (OpenSpec.ofChange tapeBackSpec)

/-- ITS FALSE NEIGHBOUR: 'it returns false'. Refute it at one input. -/
def tapeBackWrong : ChangeSpec := { name := "tapeBack", fn := fun _ => fun
  | [d] => { results := [.lit (.bool false)], args := [d] }
  | _ => none }
def TapeBackWrongFalsely : Prop := tapeBackRow.holds Tryz.pinned (OpenSpec.ofChange tapeBackWrong)

/-- 'escapementlaw28.TapeNames': WHATEVER THE INPUT: true; the input reads as it did. -/
def tapeNamesSpec : ChangeSpec := { name := "tapeNames", fn := fun _ => fun
  | [] => { results := [.lit (.bool true)], args := [] }
  | _ => none }
def tapeNamesRow : OpenClaim := { program := "ytmnolnoeibhjgaagreat", sum := "d4056583c7e065e8b3c5990ae039fa533ac80bda087bf2f1fee2f142cb23b815", func := "escapement/escapementlaw28.TapeNames", spec := "tapeNames", unfollowed := true, recurses := true, apart := false }
def TapeNamesSaid : Prop := tapeNamesRow.holds Tryz.pinned (OpenSpec.ofChange tapeNamesSpec)

/-- ITS FALSE NEIGHBOUR: 'it returns false'. Refute it at one input. -/
def tapeNamesWrong : ChangeSpec := { name := "tapeNames", fn := fun _ => fun
  | [] => { results := [.lit (.bool false)], args := [] }
  | _ => none }
def TapeNamesWrongFalsely : Prop := tapeNamesRow.holds Tryz.pinned (OpenSpec.ofChange tapeNamesWrong)

/- THE SECOND FORM. 'bulk': how many values and letters a reading holds, each counted each time it is reached (what is shared counts as often as it is met; a slice's spare places count too). A statement '..UptoSaid' is the law's where the arguments, and the package variables that the reading takes, are together of bulk at most 1048576: NARROWER than '..Said'. Prove '..Said' where nothing that the law and all that it calls make is longer than what came in: it says more and counts as full. Else prove '..UptoSaid'. A law counts once. -/
mutual
def uptoBulk {H : Type} : DataW H → Nat
  | .lit (.string bytes) => bytes.length + 1
  | .lit _ => 1
  | .nil => 1
  | .ptr d => uptoBulk d + 1
  | .slice elems spare => uptoBulkAll elems + uptoBulkAll spare + 1
  | .agg parts => uptoBulkAll parts + 1
  | .iface _ d => uptoBulk d + 1
  | .map entries => uptoBulkEntries entries + 1
  | .held _ => 1
def uptoBulkAll {H : Type} : List (DataW H) → Nat
  | [] => 0
  | d :: r => uptoBulk d + uptoBulkAll r
def uptoBulkEntries {H : Type} : List (Lit × DataW H) → Nat
  | [] => 0
  | x :: r => uptoBulkEntry x + uptoBulkEntries r
def uptoBulkEntry {H : Type} : Lit × DataW H → Nat
  | (.string bytes, d) => bytes.length + uptoBulk d + 1
  | (_, d) => uptoBulk d + 1
 end
def uptoSmall : (H : Type) → List (DataW H) → Bool := fun _ ds => decide (uptoBulkAll ds ≤ 1048576)
def OpenSpec.upto (s : _root_.Go.ChangeSpec) : _root_.Go.OpenSpec := { _root_.Go.OpenSpec.ofChange s with cond := some uptoSmall }

/-- 'escapementlaw28.TapeBytes', WHERE WHAT IT READS IS OF BULK AT MOST 1048576: true; the input reads as it did. -/
def tapeBytesUptoRow : OpenClaim := { program := "ytmnolnoeibhjgaagreat", sum := "d4056583c7e065e8b3c5990ae039fa533ac80bda087bf2f1fee2f142cb23b815", func := "escapement/escapementlaw28.TapeBytes", spec := "tapeBytes", unfollowed := true, recurses := true, apart := false, narrowed := true }
def TapeBytesUptoSaid : Prop := tapeBytesUptoRow.holds Tryz.pinned (OpenSpec.upto tapeBytesSpec)

/-- 'escapementlaw28.TapeParses', WHERE WHAT IT READS IS OF BULK AT MOST 1048576: true; the input reads as it did. -/
def tapeParsesUptoRow : OpenClaim := { program := "ytmnolnoeibhjgaagreat", sum := "d4056583c7e065e8b3c5990ae039fa533ac80bda087bf2f1fee2f142cb23b815", func := "escapement/escapementlaw28.TapeParses", spec := "tapeParses", unfollowed := true, recurses := true, apart := false, narrowed := true }
def TapeParsesUptoSaid : Prop := tapeParsesUptoRow.holds Tryz.pinned (OpenSpec.upto tapeParsesSpec)

/-- 'escapementlaw28.TapeBack', WHERE WHAT IT READS IS OF BULK AT MOST 1048576: true; the input reads as it did. -/
def tapeBackUptoRow : OpenClaim := { program := "ytmnolnoeibhjgaagreat", sum := "d4056583c7e065e8b3c5990ae039fa533ac80bda087bf2f1fee2f142cb23b815", func := "escapement/escapementlaw28.TapeBack", spec := "tapeBack", unfollowed := true, recurses := true, apart := false, narrowed := true }
def TapeBackUptoSaid : Prop := tapeBackUptoRow.holds Tryz.pinned (OpenSpec.upto tapeBackSpec)

/-- 'escapementlaw28.TapeNames', WHERE WHAT IT READS IS OF BULK AT MOST 1048576: true; the input reads as it did. -/
def tapeNamesUptoRow : OpenClaim := { program := "ytmnolnoeibhjgaagreat", sum := "d4056583c7e065e8b3c5990ae039fa533ac80bda087bf2f1fee2f142cb23b815", func := "escapement/escapementlaw28.TapeNames", spec := "tapeNames", unfollowed := true, recurses := true, apart := false, narrowed := true }
def TapeNamesUptoSaid : Prop := tapeNamesUptoRow.holds Tryz.pinned (OpenSpec.upto tapeNamesSpec)

end Rows
end Go.Proofs.YtmnolnoeibhjgaaGreat
