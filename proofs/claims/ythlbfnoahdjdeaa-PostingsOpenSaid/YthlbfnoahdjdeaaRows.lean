/-
  No cell of these rows narrows 'for every input' (looked for: loops, veiled, ifaces, maps, wideKeys, modest, calm, conditions, laid).
  DERIVED. THE GIVEN ROWS OF THIS SEAT. 6 by the template 'for every input the law returns true; each argument reads behind the call as it read before'; 0 by the template 'total and deterministic' (their statements: YthlbfnoahdjdeaaTotals.lean).
  GIVEN WITH THE SEED: the statements are not yours to turn. If you find one false, say at which input.
  Laid BY PROGRAM, IN A SANDBOX (cutbox-rows.mjs): the forced cells as the released guide's own fill.sh prints them over the translation 81684aa46f9d45e6… (all of the seat's roots in one cut). By AI agents, Wed Nov 11 2026. No macro, syntax, notation, axiom, sorry.
-/
import Derived.Test.YthlbfnoahdjdeaaChecked
import GoSem.Claim
import GoSem.ClaimJoined
import GoSem.ClaimMapViews
import Derived.JoinedTies
import Derived.KernelRfl
namespace Go.Proofs.Ythlbfnoahdjdeaa
/- THE CELL 'sum', in the pinned program and in every row, IS THE sha256 OF THE DUMP (.gsa) THAT YthlbfnoahdjdeaaProg.lean LOADS. Nothing in Lean hashes anything: it is a label: what it is worth is what the hold of that sum in a sandbox is worth. -/
noncomputable def Try.pinned : Pinned := { name := "ythlbfnoahdjdeaa", sum := "81684aa46f9d45e63350234b61464730a66a3a18428c8da5d85df74f16d366af", checked := Try.checked }
namespace Rows
def none {H : Type} : Left H := { results := [], args := [] }

/-- 'lecternlaw10.PostingsBuild': WHATEVER THE INPUT: true; the input reads as it did. -/
def postingsBuildSpec : ChangeSpec := { name := "postingsBuild", fn := fun _ => fun
  | [d] => { results := [.lit (.bool true)], args := [d] }
  | _ => none }
def postingsBuildRow : OpenClaim := { program := "ythlbfnoahdjdeaa", sum := "81684aa46f9d45e63350234b61464730a66a3a18428c8da5d85df74f16d366af", func := "lectern/lecternlaw10.PostingsBuild", spec := "postingsBuild", unfollowed := true, recurses := true, apart := false }
def PostingsBuildSaid : Prop := postingsBuildRow.holds Try.pinned (OpenSpec.ofChange postingsBuildSpec)

/-- ITS FALSE NEIGHBOUR: 'it returns false'. Refute it at one input. -/
def postingsBuildWrong : ChangeSpec := { name := "postingsBuild", fn := fun _ => fun
  | [d] => { results := [.lit (.bool false)], args := [d] }
  | _ => none }
def PostingsBuildWrongFalsely : Prop := postingsBuildRow.holds Try.pinned (OpenSpec.ofChange postingsBuildWrong)

/-- 'lecternlaw10.PostingsWalk': WHATEVER THE INPUT: true; the input reads as it did. -/
def postingsWalkSpec : ChangeSpec := { name := "postingsWalk", fn := fun _ => fun
  | [d1, d2] => { results := [.lit (.bool true)], args := [d1, d2] }
  | _ => none }
def postingsWalkRow : OpenClaim := { program := "ythlbfnoahdjdeaa", sum := "81684aa46f9d45e63350234b61464730a66a3a18428c8da5d85df74f16d366af", func := "lectern/lecternlaw10.PostingsWalk", spec := "postingsWalk", unfollowed := true, recurses := true, apart := false }
def PostingsWalkSaid : Prop := postingsWalkRow.holds Try.pinned (OpenSpec.ofChange postingsWalkSpec)

/-- ITS FALSE NEIGHBOUR: 'it returns false'. Refute it at one input. -/
def postingsWalkWrong : ChangeSpec := { name := "postingsWalk", fn := fun _ => fun
  | [d1, d2] => { results := [.lit (.bool false)], args := [d1, d2] }
  | _ => none }
def PostingsWalkWrongFalsely : Prop := postingsWalkRow.holds Try.pinned (OpenSpec.ofChange postingsWalkWrong)

/-- 'lecternlaw10.PostingsGoOn': WHATEVER THE INPUT: true; the input reads as it did. -/
def postingsGoOnSpec : ChangeSpec := { name := "postingsGoOn", fn := fun _ => fun
  | [d1, d2] => { results := [.lit (.bool true)], args := [d1, d2] }
  | _ => none }
def postingsGoOnRow : OpenClaim := { program := "ythlbfnoahdjdeaa", sum := "81684aa46f9d45e63350234b61464730a66a3a18428c8da5d85df74f16d366af", func := "lectern/lecternlaw10.PostingsGoOn", spec := "postingsGoOn", unfollowed := true, recurses := true, apart := false }
def PostingsGoOnSaid : Prop := postingsGoOnRow.holds Try.pinned (OpenSpec.ofChange postingsGoOnSpec)

/-- ITS FALSE NEIGHBOUR: 'it returns false'. Refute it at one input. -/
def postingsGoOnWrong : ChangeSpec := { name := "postingsGoOn", fn := fun _ => fun
  | [d1, d2] => { results := [.lit (.bool false)], args := [d1, d2] }
  | _ => none }
def PostingsGoOnWrongFalsely : Prop := postingsGoOnRow.holds Try.pinned (OpenSpec.ofChange postingsGoOnWrong)

/-- 'lecternlaw10.PostingsOpen': WHATEVER THE INPUT: true; the input reads as it did. -/
def postingsOpenSpec : ChangeSpec := { name := "postingsOpen", fn := fun _ => fun
  | [d] => { results := [.lit (.bool true)], args := [d] }
  | _ => none }
def postingsOpenRow : OpenClaim := { program := "ythlbfnoahdjdeaa", sum := "81684aa46f9d45e63350234b61464730a66a3a18428c8da5d85df74f16d366af", func := "lectern/lecternlaw10.PostingsOpen", spec := "postingsOpen", unfollowed := true, recurses := true, apart := false }
def PostingsOpenSaid : Prop := postingsOpenRow.holds Try.pinned (OpenSpec.ofChange postingsOpenSpec)

/-- ITS FALSE NEIGHBOUR: 'it returns false'. Refute it at one input. -/
def postingsOpenWrong : ChangeSpec := { name := "postingsOpen", fn := fun _ => fun
  | [d] => { results := [.lit (.bool false)], args := [d] }
  | _ => none }
def PostingsOpenWrongFalsely : Prop := postingsOpenRow.holds Try.pinned (OpenSpec.ofChange postingsOpenWrong)

/-- 'lecternlaw10.PostingsBack': WHATEVER THE INPUT: true; the input reads as it did. -/
def postingsBackSpec : ChangeSpec := { name := "postingsBack", fn := fun _ => fun
  | [d1, d2] => { results := [.lit (.bool true)], args := [d1, d2] }
  | _ => none }
def postingsBackRow : OpenClaim := { program := "ythlbfnoahdjdeaa", sum := "81684aa46f9d45e63350234b61464730a66a3a18428c8da5d85df74f16d366af", func := "lectern/lecternlaw10.PostingsBack", spec := "postingsBack", unfollowed := true, recurses := true, apart := false }
def PostingsBackSaid : Prop := postingsBackRow.holds Try.pinned (OpenSpec.ofChange postingsBackSpec)

/-- ITS FALSE NEIGHBOUR: 'it returns false'. Refute it at one input. -/
def postingsBackWrong : ChangeSpec := { name := "postingsBack", fn := fun _ => fun
  | [d1, d2] => { results := [.lit (.bool false)], args := [d1, d2] }
  | _ => none }
def PostingsBackWrongFalsely : Prop := postingsBackRow.holds Try.pinned (OpenSpec.ofChange postingsBackWrong)

/-- 'lecternlaw10.PostingsKnown': WHATEVER THE INPUT: true; the input reads as it did. -/
def postingsKnownSpec : ChangeSpec := { name := "postingsKnown", fn := fun _ => fun
  | [] => { results := [.lit (.bool true)], args := [] }
  | _ => none }
def postingsKnownRow : OpenClaim := { program := "ythlbfnoahdjdeaa", sum := "81684aa46f9d45e63350234b61464730a66a3a18428c8da5d85df74f16d366af", func := "lectern/lecternlaw10.PostingsKnown", spec := "postingsKnown", unfollowed := true, recurses := true, apart := false }
def PostingsKnownSaid : Prop := postingsKnownRow.holds Try.pinned (OpenSpec.ofChange postingsKnownSpec)

/-- ITS FALSE NEIGHBOUR: 'it returns false'. Refute it at one input. -/
def postingsKnownWrong : ChangeSpec := { name := "postingsKnown", fn := fun _ => fun
  | [] => { results := [.lit (.bool false)], args := [] }
  | _ => none }
def PostingsKnownWrongFalsely : Prop := postingsKnownRow.holds Try.pinned (OpenSpec.ofChange postingsKnownWrong)

/- THE SECOND FORM. 'bulk': how many values and letters a reading holds, each counted each time it is reached (what is shared counts as often as it is met; a slice's spare places count too). A statement '..UptoSaid' is the law's where the arguments, and the package variables that the reading takes, are together of bulk at most 1048576: NARROWER than '..Said'. Prove '..Said' where nothing that the law and all that it calls make is longer than what came in: it says more and counts as full. Else prove '..UptoSaid'. A law counts once. -/
mutual
def uptoBulk {H : Type} : DataW H → Nat
  | .lit (.string bytes) => bytes.length + 1
  | .lit _ => 1
  | .nil => 1
  | .ptr d => uptoBulk d + 1
  | .slice elems spare => uptoBulkAll elems + uptoBulkAll spare + 1
  | .agg parts => uptoBulkAll parts + 1
  | .iface _ d => uptoBulk d + 1
  | .map entries => uptoBulkEntries entries + 1
  | .held _ => 1
def uptoBulkAll {H : Type} : List (DataW H) → Nat
  | [] => 0
  | d :: r => uptoBulk d + uptoBulkAll r
def uptoBulkEntries {H : Type} : List (Lit × DataW H) → Nat
  | [] => 0
  | x :: r => uptoBulkEntry x + uptoBulkEntries r
def uptoBulkEntry {H : Type} : Lit × DataW H → Nat
  | (.string bytes, d) => bytes.length + uptoBulk d + 1
  | (_, d) => uptoBulk d + 1
 end
def uptoSmall : (H : Type) → List (DataW H) → Bool := fun _ ds => decide (uptoBulkAll ds ≤ 1048576)
def OpenSpec.upto (s : _root_.Go.ChangeSpec) : _root_.Go.OpenSpec := { _root_.Go.OpenSpec.ofChange s with cond := some uptoSmall }

/-- 'lecternlaw10.PostingsBuild', WHERE WHAT IT READS IS OF BULK AT MOST 1048576: true; the input reads as it did. -/
def postingsBuildUptoRow : OpenClaim := { program := "ythlbfnoahdjdeaa", sum := "81684aa46f9d45e63350234b61464730a66a3a18428c8da5d85df74f16d366af", func := "lectern/lecternlaw10.PostingsBuild", spec := "postingsBuild", unfollowed := true, recurses := true, apart := false, narrowed := true }
def PostingsBuildUptoSaid : Prop := postingsBuildUptoRow.holds Try.pinned (OpenSpec.upto postingsBuildSpec)

/-- 'lecternlaw10.PostingsWalk', WHERE WHAT IT READS IS OF BULK AT MOST 1048576: true; the input reads as it did. -/
def postingsWalkUptoRow : OpenClaim := { program := "ythlbfnoahdjdeaa", sum := "81684aa46f9d45e63350234b61464730a66a3a18428c8da5d85df74f16d366af", func := "lectern/lecternlaw10.PostingsWalk", spec := "postingsWalk", unfollowed := true, recurses := true, apart := false, narrowed := true }
def PostingsWalkUptoSaid : Prop := postingsWalkUptoRow.holds Try.pinned (OpenSpec.upto postingsWalkSpec)

/-- 'lecternlaw10.PostingsGoOn', WHERE WHAT IT READS IS OF BULK AT MOST 1048576: true; the input reads as it did. -/
def postingsGoOnUptoRow : OpenClaim := { program := "ythlbfnoahdjdeaa", sum := "81684aa46f9d45e63350234b61464730a66a3a18428c8da5d85df74f16d366af", func := "lectern/lecternlaw10.PostingsGoOn", spec := "postingsGoOn", unfollowed := true, recurses := true, apart := false, narrowed := true }
def PostingsGoOnUptoSaid : Prop := postingsGoOnUptoRow.holds Try.pinned (OpenSpec.upto postingsGoOnSpec)

/-- 'lecternlaw10.PostingsOpen', WHERE WHAT IT READS IS OF BULK AT MOST 1048576: true; the input reads as it did. -/
def postingsOpenUptoRow : OpenClaim := { program := "ythlbfnoahdjdeaa", sum := "81684aa46f9d45e63350234b61464730a66a3a18428c8da5d85df74f16d366af", func := "lectern/lecternlaw10.PostingsOpen", spec := "postingsOpen", unfollowed := true, recurses := true, apart := false, narrowed := true }
def PostingsOpenUptoSaid : Prop := postingsOpenUptoRow.holds Try.pinned (OpenSpec.upto postingsOpenSpec)

/-- 'lecternlaw10.PostingsBack', WHERE WHAT IT READS IS OF BULK AT MOST 1048576: true; the input reads as it did. -/
def postingsBackUptoRow : OpenClaim := { program := "ythlbfnoahdjdeaa", sum := "81684aa46f9d45e63350234b61464730a66a3a18428c8da5d85df74f16d366af", func := "lectern/lecternlaw10.PostingsBack", spec := "postingsBack", unfollowed := true, recurses := true, apart := false, narrowed := true }
def PostingsBackUptoSaid : Prop := postingsBackUptoRow.holds Try.pinned (OpenSpec.upto postingsBackSpec)

/-- 'lecternlaw10.PostingsKnown', WHERE WHAT IT READS IS OF BULK AT MOST 1048576: true; the input reads as it did. -/
def postingsKnownUptoRow : OpenClaim := { program := "ythlbfnoahdjdeaa", sum := "81684aa46f9d45e63350234b61464730a66a3a18428c8da5d85df74f16d366af", func := "lectern/lecternlaw10.PostingsKnown", spec := "postingsKnown", unfollowed := true, recurses := true, apart := false, narrowed := true }
def PostingsKnownUptoSaid : Prop := postingsKnownUptoRow.holds Try.pinned (OpenSpec.upto postingsKnownSpec)

end Rows
end Go.Proofs.Ythlbfnoahdjdeaa
