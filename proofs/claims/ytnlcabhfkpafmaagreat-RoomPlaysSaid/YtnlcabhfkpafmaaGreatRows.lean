/-
  No cell of these rows narrows 'for every input' (looked for: loops, veiled, ifaces, maps, wideKeys, modest, calm, conditions, laid).
  DERIVED. THE GIVEN ROWS OF THIS SEAT. 4 by the template 'for every input the law returns true; each argument reads behind the call as it read before'; 0 by the template 'total and deterministic' (their statements: YtnlcabhfkpafmaaGreatTotals.lean).
  GIVEN WITH THE SEED: the statements are not yours to turn. If you find one false, say at which input.
  Laid BY PROGRAM, IN A SANDBOX (cutbox-rows.mjs): the forced cells as the released guide's own fill.sh prints them over the translation 5fa7cda84ad6c6b8… (all of the seat's roots in one cut). By AI agents, Wed Nov 11 2026. No macro, syntax, notation, axiom, sorry.
-/
import Derived.Test.YtnlcabhfkpafmaaGreatChecked
import GoSem.Claim
import GoSem.ClaimJoined
import GoSem.ClaimMapViews
import Derived.JoinedTies
import Derived.KernelRfl
namespace Go.Proofs.YtnlcabhfkpafmaaGreat
/- THE CELL 'sum', in the pinned program and in every row, IS THE sha256 OF THE DUMP (.gsa) THAT YtnlcabhfkpafmaaGreatProg.lean LOADS. Nothing in Lean hashes anything: it is a label: what it is worth is what the hold of that sum in a sandbox is worth. -/
noncomputable def Tryz.pinned : Pinned := { name := "ytnlcabhfkpafmaagreat", sum := "5fa7cda84ad6c6b87990873624e136604c51d24e685486df70e5f22902e07227", checked := Tryz.checked }
namespace Rows
def none {H : Type} : Left H := { results := [], args := [] }

/-- 'escapementlaw18.RoomFree': WHATEVER THE INPUT: true; the input reads as it did. -/
def roomFreeSpec : ChangeSpec := { name := "roomFree", fn := fun _ => fun
  | [d1, d2] => { results := [.lit (.bool true)], args := [d1, d2] }
  | _ => none }
def roomFreeRow : OpenClaim := { program := "ytnlcabhfkpafmaagreat", sum := "5fa7cda84ad6c6b87990873624e136604c51d24e685486df70e5f22902e07227", func := "escapement/escapementlaw18.RoomFree", spec := "roomFree", unfollowed := true, recurses := true, apart := false }
def RoomFreeSaid : Prop := roomFreeRow.holds Tryz.pinned (OpenSpec.ofChange roomFreeSpec)

/-- ITS FALSE NEIGHBOUR: 'it returns false'. Refute it at one input. -/
def roomFreeWrong : ChangeSpec := { name := "roomFree", fn := fun _ => fun
  | [d1, d2] => { results := [.lit (.bool false)], args := [d1, d2] }
  | _ => none }
def RoomFreeWrongFalsely : Prop := roomFreeRow.holds Tryz.pinned (OpenSpec.ofChange roomFreeWrong)

/-- 'escapementlaw18.RoomWaits': WHATEVER THE INPUT: true; the input reads as it did. -/
def roomWaitsSpec : ChangeSpec := { name := "roomWaits", fn := fun _ => fun
  | [d1, d2] => { results := [.lit (.bool true)], args := [d1, d2] }
  | _ => none }
def roomWaitsRow : OpenClaim := { program := "ytnlcabhfkpafmaagreat", sum := "5fa7cda84ad6c6b87990873624e136604c51d24e685486df70e5f22902e07227", func := "escapement/escapementlaw18.RoomWaits", spec := "roomWaits", unfollowed := true, recurses := true, apart := false }
def RoomWaitsSaid : Prop := roomWaitsRow.holds Tryz.pinned (OpenSpec.ofChange roomWaitsSpec)

/-- ITS FALSE NEIGHBOUR: 'it returns false'. Refute it at one input. -/
def roomWaitsWrong : ChangeSpec := { name := "roomWaits", fn := fun _ => fun
  | [d1, d2] => { results := [.lit (.bool false)], args := [d1, d2] }
  | _ => none }
def RoomWaitsWrongFalsely : Prop := roomWaitsRow.holds Tryz.pinned (OpenSpec.ofChange roomWaitsWrong)

/-- 'escapementlaw18.RoomPlays': WHATEVER THE INPUT: true; the input reads as it did. -/
def roomPlaysSpec : ChangeSpec := { name := "roomPlays", fn := fun _ => fun
  | [d1, d2] => { results := [.lit (.bool true)], args := [d1, d2] }
  | _ => none }
def roomPlaysRow : OpenClaim := { program := "ytnlcabhfkpafmaagreat", sum := "5fa7cda84ad6c6b87990873624e136604c51d24e685486df70e5f22902e07227", func := "escapement/escapementlaw18.RoomPlays", spec := "roomPlays", unfollowed := true, recurses := true, apart := false }
def RoomPlaysSaid : Prop := roomPlaysRow.holds Tryz.pinned (OpenSpec.ofChange roomPlaysSpec)

/-- ITS FALSE NEIGHBOUR: 'it returns false'. Refute it at one input. -/
def roomPlaysWrong : ChangeSpec := { name := "roomPlays", fn := fun _ => fun
  | [d1, d2] => { results := [.lit (.bool false)], args := [d1, d2] }
  | _ => none }
def RoomPlaysWrongFalsely : Prop := roomPlaysRow.holds Tryz.pinned (OpenSpec.ofChange roomPlaysWrong)

/-- 'escapementlaw18.RoomNames': WHATEVER THE INPUT: true; the input reads as it did. -/
def roomNamesSpec : ChangeSpec := { name := "roomNames", fn := fun _ => fun
  | [] => { results := [.lit (.bool true)], args := [] }
  | _ => none }
def roomNamesRow : OpenClaim := { program := "ytnlcabhfkpafmaagreat", sum := "5fa7cda84ad6c6b87990873624e136604c51d24e685486df70e5f22902e07227", func := "escapement/escapementlaw18.RoomNames", spec := "roomNames", unfollowed := true, recurses := true, apart := false }
def RoomNamesSaid : Prop := roomNamesRow.holds Tryz.pinned (OpenSpec.ofChange roomNamesSpec)

/-- ITS FALSE NEIGHBOUR: 'it returns false'. Refute it at one input. -/
def roomNamesWrong : ChangeSpec := { name := "roomNames", fn := fun _ => fun
  | [] => { results := [.lit (.bool false)], args := [] }
  | _ => none }
def RoomNamesWrongFalsely : Prop := roomNamesRow.holds Tryz.pinned (OpenSpec.ofChange roomNamesWrong)

/- THE SECOND FORM. 'bulk': how many values and letters a reading holds, each counted each time it is reached (what is shared counts as often as it is met; a slice's spare places count too). A statement '..UptoSaid' is the law's where the arguments, and the package variables that the reading takes, are together of bulk at most 1048576: NARROWER than '..Said'. Prove '..Said' where nothing that the law and all that it calls make is longer than what came in: it says more and counts as full. Else prove '..UptoSaid'. A law counts once. -/
mutual
def uptoBulk {H : Type} : DataW H → Nat
  | .lit (.string bytes) => bytes.length + 1
  | .lit _ => 1
  | .nil => 1
  | .ptr d => uptoBulk d + 1
  | .slice elems spare => uptoBulkAll elems + uptoBulkAll spare + 1
  | .agg parts => uptoBulkAll parts + 1
  | .iface _ d => uptoBulk d + 1
  | .map entries => uptoBulkEntries entries + 1
  | .held _ => 1
def uptoBulkAll {H : Type} : List (DataW H) → Nat
  | [] => 0
  | d :: r => uptoBulk d + uptoBulkAll r
def uptoBulkEntries {H : Type} : List (Lit × DataW H) → Nat
  | [] => 0
  | x :: r => uptoBulkEntry x + uptoBulkEntries r
def uptoBulkEntry {H : Type} : Lit × DataW H → Nat
  | (.string bytes, d) => bytes.length + uptoBulk d + 1
  | (_, d) => uptoBulk d + 1
 end
def uptoSmall : (H : Type) → List (DataW H) → Bool := fun _ ds => decide (uptoBulkAll ds ≤ 1048576)
def OpenSpec.upto (s : _root_.Go.ChangeSpec) : _root_.Go.OpenSpec := { _root_.Go.OpenSpec.ofChange s with cond := some uptoSmall }

/-- 'escapementlaw18.RoomFree', WHERE WHAT IT READS IS OF BULK AT MOST 1048576: true; the input reads as it did. -/
def roomFreeUptoRow : OpenClaim := { program := "ytnlcabhfkpafmaagreat", sum := "5fa7cda84ad6c6b87990873624e136604c51d24e685486df70e5f22902e07227", func := "escapement/escapementlaw18.RoomFree", spec := "roomFree", unfollowed := true, recurses := true, apart := false, narrowed := true }
def RoomFreeUptoSaid : Prop := roomFreeUptoRow.holds Tryz.pinned (OpenSpec.upto roomFreeSpec)

/-- 'escapementlaw18.RoomWaits', WHERE WHAT IT READS IS OF BULK AT MOST 1048576: true; the input reads as it did. -/
def roomWaitsUptoRow : OpenClaim := { program := "ytnlcabhfkpafmaagreat", sum := "5fa7cda84ad6c6b87990873624e136604c51d24e685486df70e5f22902e07227", func := "escapement/escapementlaw18.RoomWaits", spec := "roomWaits", unfollowed := true, recurses := true, apart := false, narrowed := true }
def RoomWaitsUptoSaid : Prop := roomWaitsUptoRow.holds Tryz.pinned (OpenSpec.upto roomWaitsSpec)

/-- 'escapementlaw18.RoomPlays', WHERE WHAT IT READS IS OF BULK AT MOST 1048576: true; the input reads as it did. -/
def roomPlaysUptoRow : OpenClaim := { program := "ytnlcabhfkpafmaagreat", sum := "5fa7cda84ad6c6b87990873624e136604c51d24e685486df70e5f22902e07227", func := "escapement/escapementlaw18.RoomPlays", spec := "roomPlays", unfollowed := true, recurses := true, apart := false, narrowed := true }
def RoomPlaysUptoSaid : Prop := roomPlaysUptoRow.holds Tryz.pinned (OpenSpec.upto roomPlaysSpec)

/-- 'escapementlaw18.RoomNames', WHERE WHAT IT READS IS OF BULK AT MOST 1048576: true; the input reads as it did. -/
def roomNamesUptoRow : OpenClaim := { program := "ytnlcabhfkpafmaagreat", sum := "5fa7cda84ad6c6b87990873624e136604c51d24e685486df70e5f22902e07227", func := "escapement/escapementlaw18.RoomNames", spec := "roomNames", unfollowed := true, recurses := true, apart := false, narrowed := true }
def RoomNamesUptoSaid : Prop := roomNamesUptoRow.holds Tryz.pinned (OpenSpec.upto roomNamesSpec)

end Rows
end Go.Proofs.YtnlcabhfkpafmaaGreat
