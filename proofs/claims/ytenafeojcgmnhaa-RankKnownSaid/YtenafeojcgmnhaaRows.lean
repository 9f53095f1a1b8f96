/-
  No cell of these rows narrows 'for every input' (looked for: loops, veiled, ifaces, maps, wideKeys, modest, calm, conditions, laid).
  DERIVED. THE GIVEN ROWS OF THIS SEAT. 8 by the template 'for every input the law returns true; each argument reads behind the call as it read before'; 0 by the template 'total and deterministic' (their statements: YtenafeojcgmnhaaTotals.lean).
  GIVEN WITH THE SEED: the statements are not yours to turn. If you find one false, say at which input.
  Laid BY PROGRAM, IN A SANDBOX (cutbox-rows.mjs): the forced cells as the released guide's own fill.sh prints them over the translation dba43435b1a08580… (all of the seat's roots in one cut). By AI agents, Wed Nov 11 2026. No macro, syntax, notation, axiom, sorry.
-/
import Derived.Test.YtenafeojcgmnhaaChecked
import GoSem.Claim
import GoSem.ClaimJoined
import GoSem.ClaimMapViews
import Derived.JoinedTies
import Derived.KernelRfl
namespace Go.Proofs.Ytenafeojcgmnhaa
/- THE CELL 'sum', in the pinned program and in every row, IS THE sha256 OF THE DUMP (.gsa) THAT YtenafeojcgmnhaaProg.lean LOADS. Nothing in Lean hashes anything: it is a label: what it is worth is what the hold of that sum in a sandbox is worth. -/
noncomputable def Try.pinned : Pinned := { name := "ytenafeojcgmnhaa", sum := "dba43435b1a08580379128ccf1ce0d56092bd16becd9a32fe24065a30b243859", checked := Try.checked }
namespace Rows
def none {H : Type} : Left H := { results := [], args := [] }

/-- 'escapementlaw02.RankOrder': WHATEVER THE INPUT: true; the input reads as it did. -/
def rankOrderSpec : ChangeSpec := { name := "rankOrder", fn := fun _ => fun
  | [d] => { results := [.lit (.bool true)], args := [d] }
  | _ => none }
def rankOrderRow : OpenClaim := { program := "ytenafeojcgmnhaa", sum := "dba43435b1a08580379128ccf1ce0d56092bd16becd9a32fe24065a30b243859", func := "escapement/escapementlaw02.RankOrder", spec := "rankOrder", unfollowed := true, recurses := true, apart := false }
def RankOrderSaid : Prop := rankOrderRow.holds Try.pinned (OpenSpec.ofChange rankOrderSpec)

/-- ITS FALSE NEIGHBOUR: 'it returns false'. Refute it at one input. -/
def rankOrderWrong : ChangeSpec := { name := "rankOrder", fn := fun _ => fun
  | [d] => { results := [.lit (.bool false)], args := [d] }
  | _ => none }
def RankOrderWrongFalsely : Prop := rankOrderRow.holds Try.pinned (OpenSpec.ofChange rankOrderWrong)

/-- 'escapementlaw02.RankMixed': WHATEVER THE INPUT: true; the input reads as it did. -/
def rankMixedSpec : ChangeSpec := { name := "rankMixed", fn := fun _ => fun
  | [d1, d2] => { results := [.lit (.bool true)], args := [d1, d2] }
  | _ => none }
def rankMixedRow : OpenClaim := { program := "ytenafeojcgmnhaa", sum := "dba43435b1a08580379128ccf1ce0d56092bd16becd9a32fe24065a30b243859", func := "escapement/escapementlaw02.RankMixed", spec := "rankMixed", unfollowed := true, recurses := true, apart := false }
def RankMixedSaid : Prop := rankMixedRow.holds Try.pinned (OpenSpec.ofChange rankMixedSpec)

/-- ITS FALSE NEIGHBOUR: 'it returns false'. Refute it at one input. -/
def rankMixedWrong : ChangeSpec := { name := "rankMixed", fn := fun _ => fun
  | [d1, d2] => { results := [.lit (.bool false)], args := [d1, d2] }
  | _ => none }
def RankMixedWrongFalsely : Prop := rankMixedRow.holds Try.pinned (OpenSpec.ofChange rankMixedWrong)

/-- 'escapementlaw02.RankPlays': WHATEVER THE INPUT: true; the input reads as it did. -/
def rankPlaysSpec : ChangeSpec := { name := "rankPlays", fn := fun _ => fun
  | [d] => { results := [.lit (.bool true)], args := [d] }
  | _ => none }
def rankPlaysRow : OpenClaim := { program := "ytenafeojcgmnhaa", sum := "dba43435b1a08580379128ccf1ce0d56092bd16becd9a32fe24065a30b243859", func := "escapement/escapementlaw02.RankPlays", spec := "rankPlays", unfollowed := true, recurses := true, apart := false }
def RankPlaysSaid : Prop := rankPlaysRow.holds Try.pinned (OpenSpec.ofChange rankPlaysSpec)

/-- ITS FALSE NEIGHBOUR: 'it returns false'. Refute it at one input. -/
def rankPlaysWrong : ChangeSpec := { name := "rankPlays", fn := fun _ => fun
  | [d] => { results := [.lit (.bool false)], args := [d] }
  | _ => none }
def RankPlaysWrongFalsely : Prop := rankPlaysRow.holds Try.pinned (OpenSpec.ofChange rankPlaysWrong)

/-- 'escapementlaw02.RankKnown': WHATEVER THE INPUT: true; the input reads as it did. -/
def rankKnownSpec : ChangeSpec := { name := "rankKnown", fn := fun _ => fun
  | [] => { results := [.lit (.bool true)], args := [] }
  | _ => none }
def rankKnownRow : OpenClaim := { program := "ytenafeojcgmnhaa", sum := "dba43435b1a08580379128ccf1ce0d56092bd16becd9a32fe24065a30b243859", func := "escapement/escapementlaw02.RankKnown", spec := "rankKnown", unfollowed := true, recurses := true, apart := false }
def RankKnownSaid : Prop := rankKnownRow.holds Try.pinned (OpenSpec.ofChange rankKnownSpec)

/-- ITS FALSE NEIGHBOUR: 'it returns false'. Refute it at one input. -/
def rankKnownWrong : ChangeSpec := { name := "rankKnown", fn := fun _ => fun
  | [] => { results := [.lit (.bool false)], args := [] }
  | _ => none }
def RankKnownWrongFalsely : Prop := rankKnownRow.holds Try.pinned (OpenSpec.ofChange rankKnownWrong)

/-- 'escapementlaw15.ReadyPlays': WHATEVER THE INPUT: true; the input reads as it did. -/
def readyPlaysSpec : ChangeSpec := { name := "readyPlays", fn := fun _ => fun
  | [d1, d2] => { results := [.lit (.bool true)], args := [d1, d2] }
  | _ => none }
def readyPlaysRow : OpenClaim := { program := "ytenafeojcgmnhaa", sum := "dba43435b1a08580379128ccf1ce0d56092bd16becd9a32fe24065a30b243859", func := "escapement/escapementlaw15.ReadyPlays", spec := "readyPlays", unfollowed := true, recurses := true, apart := false }
def ReadyPlaysSaid : Prop := readyPlaysRow.holds Try.pinned (OpenSpec.ofChange readyPlaysSpec)

/-- ITS FALSE NEIGHBOUR: 'it returns false'. Refute it at one input. -/
def readyPlaysWrong : ChangeSpec := { name := "readyPlays", fn := fun _ => fun
  | [d1, d2] => { results := [.lit (.bool false)], args := [d1, d2] }
  | _ => none }
def ReadyPlaysWrongFalsely : Prop := readyPlaysRow.holds Try.pinned (OpenSpec.ofChange readyPlaysWrong)

/-- 'escapementlaw15.ReadyFirst': WHATEVER THE INPUT: true; the input reads as it did. -/
def readyFirstSpec : ChangeSpec := { name := "readyFirst", fn := fun _ => fun
  | [d1, d2] => { results := [.lit (.bool true)], args := [d1, d2] }
  | _ => none }
def readyFirstRow : OpenClaim := { program := "ytenafeojcgmnhaa", sum := "dba43435b1a08580379128ccf1ce0d56092bd16becd9a32fe24065a30b243859", func := "escapement/escapementlaw15.ReadyFirst", spec := "readyFirst", unfollowed := true, recurses := true, apart := false }
def ReadyFirstSaid : Prop := readyFirstRow.holds Try.pinned (OpenSpec.ofChange readyFirstSpec)

/-- ITS FALSE NEIGHBOUR: 'it returns false'. Refute it at one input. -/
def readyFirstWrong : ChangeSpec := { name := "readyFirst", fn := fun _ => fun
  | [d1, d2] => { results := [.lit (.bool false)], args := [d1, d2] }
  | _ => none }
def ReadyFirstWrongFalsely : Prop := readyFirstRow.holds Try.pinned (OpenSpec.ofChange readyFirstWrong)

/-- 'escapementlaw15.ReadyMixed': WHATEVER THE INPUT: true; the input reads as it did. -/
def readyMixedSpec : ChangeSpec := { name := "readyMixed", fn := fun _ => fun
  | [d1, d2, d3] => { results := [.lit (.bool true)], args := [d1, d2, d3] }
  | _ => none }
def readyMixedRow : OpenClaim := { program := "ytenafeojcgmnhaa", sum := "dba43435b1a08580379128ccf1ce0d56092bd16becd9a32fe24065a30b243859", func := "escapement/escapementlaw15.ReadyMixed", spec := "readyMixed", unfollowed := true, recurses := true, apart := false }
def ReadyMixedSaid : Prop := readyMixedRow.holds Try.pinned (OpenSpec.ofChange readyMixedSpec)

/-- ITS FALSE NEIGHBOUR: 'it returns false'. Refute it at one input. -/
def readyMixedWrong : ChangeSpec := { name := "readyMixed", fn := fun _ => fun
  | [d1, d2, d3] => { results := [.lit (.bool false)], args := [d1, d2, d3] }
  | _ => none }
def ReadyMixedWrongFalsely : Prop := readyMixedRow.holds Try.pinned (OpenSpec.ofChange readyMixedWrong)

/-- 'escapementlaw15.ReadyKnown': WHATEVER THE INPUT: true; the input reads as it did. -/
def readyKnownSpec : ChangeSpec := { name := "readyKnown", fn := fun _ => fun
  | [] => { results := [.lit (.bool true)], args := [] }
  | _ => none }
def readyKnownRow : OpenClaim := { program := "ytenafeojcgmnhaa", sum := "dba43435b1a08580379128ccf1ce0d56092bd16becd9a32fe24065a30b243859", func := "escapement/escapementlaw15.ReadyKnown", spec := "readyKnown", unfollowed := true, recurses := true, apart := false }
def ReadyKnownSaid : Prop := readyKnownRow.holds Try.pinned (OpenSpec.ofChange readyKnownSpec)

/-- ITS FALSE NEIGHBOUR: 'it returns false'. Refute it at one input. -/
def readyKnownWrong : ChangeSpec := { name := "readyKnown", fn := fun _ => fun
  | [] => { results := [.lit (.bool false)], args := [] }
  | _ => none }
def ReadyKnownWrongFalsely : Prop := readyKnownRow.holds Try.pinned (OpenSpec.ofChange readyKnownWrong)

/- THE SECOND FORM. 'bulk': how many values and letters a reading holds, each counted each time it is reached (what is shared counts as often as it is met; a slice's spare places count too). A statement '..UptoSaid' is the law's where the arguments, and the package variables that the reading takes, are together of bulk at most 1048576: NARROWER than '..Said'. Prove '..Said' where nothing that the law and all that it calls make is longer than what came in: it says more and counts as full. Else prove '..UptoSaid'. A law counts once. -/
mutual
def uptoBulk {H : Type} : DataW H → Nat
  | .lit (.string bytes) => bytes.length + 1
  | .lit _ => 1
  | .nil => 1
  | .ptr d => uptoBulk d + 1
  | .slice elems spare => uptoBulkAll elems + uptoBulkAll spare + 1
  | .agg parts => uptoBulkAll parts + 1
  | .iface _ d => uptoBulk d + 1
  | .map entries => uptoBulkEntries entries + 1
  | .held _ => 1
def uptoBulkAll {H : Type} : List (DataW H) → Nat
  | [] => 0
  | d :: r => uptoBulk d + uptoBulkAll r
def uptoBulkEntries {H : Type} : List (Lit × DataW H) → Nat
  | [] => 0
  | x :: r => uptoBulkEntry x + uptoBulkEntries r
def uptoBulkEntry {H : Type} : Lit × DataW H → Nat
  | (.string bytes, d) => bytes.length + uptoBulk d + 1
  | (_, d) => uptoBulk d + 1
 end
def uptoSmall : (H : Type) → List (DataW H) → Bool := fun _ ds => decide (uptoBulkAll ds ≤ 1048576)
def OpenSpec.upto (s : _root_.Go.ChangeSpec) : _root_.Go.OpenSpec := { _root_.Go.OpenSpec.ofChange s with cond := some uptoSmall }

/-- 'escapementlaw02.RankOrder', WHERE WHAT IT READS IS OF BULK AT MOST 1048576: true; the input reads as it did. -/
def rankOrderUptoRow : OpenClaim := { program := "ytenafeojcgmnhaa", sum := "dba43435b1a08580379128ccf1ce0d56092bd16becd9a32fe24065a30b243859", func := "escapement/escapementlaw02.RankOrder", spec := "rankOrder", unfollowed := true, recurses := true, apart := false, narrowed := true }
def RankOrderUptoSaid : Prop := rankOrderUptoRow.holds Try.pinned (OpenSpec.upto rankOrderSpec)

/-- 'escapementlaw02.RankMixed', WHERE WHAT IT READS IS OF BULK AT MOST 1048576: true; the input reads as it did. -/
def rankMixedUptoRow : OpenClaim := { program := "ytenafeojcgmnhaa", sum := "dba43435b1a08580379128ccf1ce0d56092bd16becd9a32fe24065a30b243859", func := "escapement/escapementlaw02.RankMixed", spec := "rankMixed", unfollowed := true, recurses := true, apart := false, narrowed := true }
def RankMixedUptoSaid : Prop := rankMixedUptoRow.holds Try.pinned (OpenSpec.upto rankMixedSpec)

/-- 'escapementlaw02.RankPlays', WHERE WHAT IT READS IS OF BULK AT MOST 1048576: true; the input reads as it did. -/
def rankPlaysUptoRow : OpenClaim := { program := "ytenafeojcgmnhaa", sum := "dba43435b1a08580379128ccf1ce0d56092bd16becd9a32fe24065a30b243859", func := "escapement/escapementlaw02.RankPlays", spec := "rankPlays", unfollowed := true, recurses := true, apart := false, narrowed := true }
def RankPlaysUptoSaid : Prop := rankPlaysUptoRow.holds Try.pinned (OpenSpec.upto rankPlaysSpec)

/-- 'escapementlaw02.RankKnown', WHERE WHAT IT READS IS OF BULK AT MOST 1048576: true; the input reads as it did. -/
def rankKnownUptoRow : OpenClaim := { program := "ytenafeojcgmnhaa", sum := "dba43435b1a08580379128ccf1ce0d56092bd16becd9a32fe24065a30b243859", func := "escapement/escapementlaw02.RankKnown", spec := "rankKnown", unfollowed := true, recurses := true, apart := false, narrowed := true }
def RankKnownUptoSaid : Prop := rankKnownUptoRow.holds Try.pinned (OpenSpec.upto rankKnownSpec)

/-- 'escapementlaw15.ReadyPlays', WHERE WHAT IT READS IS OF BULK AT MOST 1048576: true; the input reads as it did. -/
def readyPlaysUptoRow : OpenClaim := { program := "ytenafeojcgmnhaa", sum := "dba43435b1a08580379128ccf1ce0d56092bd16becd9a32fe24065a30b243859", func := "escapement/escapementlaw15.ReadyPlays", spec := "readyPlays", unfollowed := true, recurses := true, apart := false, narrowed := true }
def ReadyPlaysUptoSaid : Prop := readyPlaysUptoRow.holds Try.pinned (OpenSpec.upto readyPlaysSpec)

/-- 'escapementlaw15.ReadyFirst', WHERE WHAT IT READS IS OF BULK AT MOST 1048576: true; the input reads as it did. -/
def readyFirstUptoRow : OpenClaim := { program := "ytenafeojcgmnhaa", sum := "dba43435b1a08580379128ccf1ce0d56092bd16becd9a32fe24065a30b243859", func := "escapement/escapementlaw15.ReadyFirst", spec := "readyFirst", unfollowed := true, recurses := true, apart := false, narrowed := true }
def ReadyFirstUptoSaid : Prop := readyFirstUptoRow.holds Try.pinned (OpenSpec.upto readyFirstSpec)

/-- 'escapementlaw15.ReadyMixed', WHERE WHAT IT READS IS OF BULK AT MOST 1048576: true; the input reads as it did. -/
def readyMixedUptoRow : OpenClaim := { program := "ytenafeojcgmnhaa", sum := "dba43435b1a08580379128ccf1ce0d56092bd16becd9a32fe24065a30b243859", func := "escapement/escapementlaw15.ReadyMixed", spec := "readyMixed", unfollowed := true, recurses := true, apart := false, narrowed := true }
def ReadyMixedUptoSaid : Prop := readyMixedUptoRow.holds Try.pinned (OpenSpec.upto readyMixedSpec)

/-- 'escapementlaw15.ReadyKnown', WHERE WHAT IT READS IS OF BULK AT MOST 1048576: true; the input reads as it did. -/
def readyKnownUptoRow : OpenClaim := { program := "ytenafeojcgmnhaa", sum := "dba43435b1a08580379128ccf1ce0d56092bd16becd9a32fe24065a30b243859", func := "escapement/escapementlaw15.ReadyKnown", spec := "readyKnown", unfollowed := true, recurses := true, apart := false, narrowed := true }
def ReadyKnownUptoSaid : Prop := readyKnownUptoRow.holds Try.pinned (OpenSpec.upto readyKnownSpec)

end Rows
end Go.Proofs.Ytenafeojcgmnhaa
