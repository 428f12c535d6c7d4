/-
  No cell of these rows narrows 'for every input' (looked for: loops, veiled, ifaces, maps, wideKeys, modest, calm, conditions, laid).
  DERIVED. THE GIVEN ROWS OF THIS SEAT. 4 by the template 'for every input the law returns true; each argument reads behind the call as it read before'; 0 by the template 'total and deterministic' (their statements: YtpopbkcbplmcaaaTotals.lean).
  GIVEN WITH THE SEED: the statements are not yours to turn. If you find one false, say at which input.
  Laid BY PROGRAM, IN A SANDBOX (cutbox-rows.mjs): the forced cells as the released guide's own fill.sh prints them over the translation fc64804d746290cd… (all of the seat's roots in one cut). By AI agents, Wed Nov 11 2026. No macro, syntax, notation, axiom, sorry.
-/
import Derived.Test.YtpopbkcbplmcaaaChecked
import GoSem.Claim
import GoSem.ClaimJoined
import GoSem.ClaimMapViews
import Derived.JoinedTies
import Derived.KernelRfl
namespace Go.Proofs.Ytpopbkcbplmcaaa
/- THE CELL 'sum', in the pinned program and in every row, IS THE sha256 OF THE DUMP (.gsa) THAT YtpopbkcbplmcaaaProg.lean LOADS. Nothing in Lean hashes anything: it is a label: what it is worth is what the hold of that sum in a sandbox is worth. -/
noncomputable def Try.pinned : Pinned := { name := "ytpopbkcbplmcaaa", sum := "fc64804d746290cd6b0ac04902e77e6fb049365a77b37722d48488f9c0ddf1f6", checked := Try.checked }
namespace Rows
def none {H : Type} : Left H := { results := [], args := [] }

/-- 'lecternlaw13.BkdBoxes': WHATEVER THE INPUT: true; the input reads as it did. -/
def bkdBoxesSpec : ChangeSpec := { name := "bkdBoxes", fn := fun _ => fun
  | [d1, d2, d3, d4, d5, d6] => { results := [.lit (.bool true)], args := [d1, d2, d3, d4, d5, d6] }
  | _ => none }
def bkdBoxesRow : OpenClaim := { program := "ytpopbkcbplmcaaa", sum := "fc64804d746290cd6b0ac04902e77e6fb049365a77b37722d48488f9c0ddf1f6", func := "lectern/lecternlaw13.BkdBoxes", spec := "bkdBoxes", unfollowed := true, recurses := true, apart := false }
def BkdBoxesSaid : Prop := bkdBoxesRow.holds Try.pinned (OpenSpec.ofChange bkdBoxesSpec)

/-- ITS FALSE NEIGHBOUR: 'it returns false'. Refute it at one input. -/
def bkdBoxesWrong : ChangeSpec := { name := "bkdBoxes", fn := fun _ => fun
  | [d1, d2, d3, d4, d5, d6] => { results := [.lit (.bool false)], args := [d1, d2, d3, d4, d5, d6] }
  | _ => none }
def BkdBoxesWrongFalsely : Prop := bkdBoxesRow.holds Try.pinned (OpenSpec.ofChange bkdBoxesWrong)

/-- 'lecternlaw13.BkdTurned': WHATEVER THE INPUT: true; the input reads as it did. -/
def bkdTurnedSpec : ChangeSpec := { name := "bkdTurned", fn := fun _ => fun
  | [d1, d2, d3, d4, d5] => { results := [.lit (.bool true)], args := [d1, d2, d3, d4, d5] }
  | _ => none }
def bkdTurnedRow : OpenClaim := { program := "ytpopbkcbplmcaaa", sum := "fc64804d746290cd6b0ac04902e77e6fb049365a77b37722d48488f9c0ddf1f6", func := "lectern/lecternlaw13.BkdTurned", spec := "bkdTurned", unfollowed := true, recurses := true, apart := false }
def BkdTurnedSaid : Prop := bkdTurnedRow.holds Try.pinned (OpenSpec.ofChange bkdTurnedSpec)

/-- ITS FALSE NEIGHBOUR: 'it returns false'. Refute it at one input. -/
def bkdTurnedWrong : ChangeSpec := { name := "bkdTurned", fn := fun _ => fun
  | [d1, d2, d3, d4, d5] => { results := [.lit (.bool false)], args := [d1, d2, d3, d4, d5] }
  | _ => none }
def BkdTurnedWrongFalsely : Prop := bkdTurnedRow.holds Try.pinned (OpenSpec.ofChange bkdTurnedWrong)

/-- 'lecternlaw13.BkdOwn': WHATEVER THE INPUT: true; the input reads as it did. -/
def bkdOwnSpec : ChangeSpec := { name := "bkdOwn", fn := fun _ => fun
  | [d1, d2] => { results := [.lit (.bool true)], args := [d1, d2] }
  | _ => none }
def bkdOwnRow : OpenClaim := { program := "ytpopbkcbplmcaaa", sum := "fc64804d746290cd6b0ac04902e77e6fb049365a77b37722d48488f9c0ddf1f6", func := "lectern/lecternlaw13.BkdOwn", spec := "bkdOwn", unfollowed := true, recurses := true, apart := false }
def BkdOwnSaid : Prop := bkdOwnRow.holds Try.pinned (OpenSpec.ofChange bkdOwnSpec)

/-- ITS FALSE NEIGHBOUR: 'it returns false'. Refute it at one input. -/
def bkdOwnWrong : ChangeSpec := { name := "bkdOwn", fn := fun _ => fun
  | [d1, d2] => { results := [.lit (.bool false)], args := [d1, d2] }
  | _ => none }
def BkdOwnWrongFalsely : Prop := bkdOwnRow.holds Try.pinned (OpenSpec.ofChange bkdOwnWrong)

/-- 'lecternlaw13.BkdRanges': WHATEVER THE INPUT: true; the input reads as it did. -/
def bkdRangesSpec : ChangeSpec := { name := "bkdRanges", fn := fun _ => fun
  | [d1, d2, d3, d4] => { results := [.lit (.bool true)], args := [d1, d2, d3, d4] }
  | _ => none }
def bkdRangesRow : OpenClaim := { program := "ytpopbkcbplmcaaa", sum := "fc64804d746290cd6b0ac04902e77e6fb049365a77b37722d48488f9c0ddf1f6", func := "lectern/lecternlaw13.BkdRanges", spec := "bkdRanges", unfollowed := true, recurses := true, apart := false }
def BkdRangesSaid : Prop := bkdRangesRow.holds Try.pinned (OpenSpec.ofChange bkdRangesSpec)

/-- ITS FALSE NEIGHBOUR: 'it returns false'. Refute it at one input. -/
def bkdRangesWrong : ChangeSpec := { name := "bkdRanges", fn := fun _ => fun
  | [d1, d2, d3, d4] => { results := [.lit (.bool false)], args := [d1, d2, d3, d4] }
  | _ => none }
def BkdRangesWrongFalsely : Prop := bkdRangesRow.holds Try.pinned (OpenSpec.ofChange bkdRangesWrong)

/- THE SECOND FORM. 'bulk': how many values and letters a reading holds, each counted each time it is reached (what is shared counts as often as it is met; a slice's spare places count too). A statement '..UptoSaid' is the law's where the arguments, and the package variables that the reading takes, are together of bulk at most 1048576: NARROWER than '..Said'. Prove '..Said' where nothing that the law and all that it calls make is longer than what came in: it says more and counts as full. Else prove '..UptoSaid'. A law counts once. -/
mutual
def uptoBulk {H : Type} : DataW H → Nat
  | .lit (.string bytes) => bytes.length + 1
  | .lit _ => 1
  | .nil => 1
  | .ptr d => uptoBulk d + 1
  | .slice elems spare => uptoBulkAll elems + uptoBulkAll spare + 1
  | .agg parts => uptoBulkAll parts + 1
  | .iface _ d => uptoBulk d + 1
  | .map entries => uptoBulkEntries entries + 1
  | .held _ => 1
def uptoBulkAll {H : Type} : List (DataW H) → Nat
  | [] => 0
  | d :: r => uptoBulk d + uptoBulkAll r
def uptoBulkEntries {H : Type} : List (Lit × DataW H) → Nat
  | [] => 0
  | x :: r => uptoBulkEntry x + uptoBulkEntries r
def uptoBulkEntry {H : Type} : Lit × DataW H → Nat
  | (.string bytes, d) => bytes.length + uptoBulk d + 1
  | (_, d) => uptoBulk d + 1
 end
def uptoSmall : (H : Type) → List (DataW H) → Bool := fun _ ds => decide (uptoBulkAll ds ≤ 1048576)
def OpenSpec.upto (s : _root_.Go.ChangeSpec) : _root_.Go.OpenSpec := { _root_.Go.OpenSpec.ofChange s with cond := some uptoSmall }

/-- 'lecternlaw13.BkdBoxes', WHERE WHAT IT READS IS OF BULK AT MOST 1048576: true; the input reads as it did. -/
def bkdBoxesUptoRow : OpenClaim := { program := "ytpopbkcbplmcaaa", sum := "fc64804d746290cd6b0ac04902e77e6fb049365a77b37722d48488f9c0ddf1f6", func := "lectern/lecternlaw13.BkdBoxes", spec := "bkdBoxes", unfollowed := true, recurses := true, apart := false, narrowed := true }
def BkdBoxesUptoSaid : Prop := bkdBoxesUptoRow.holds Try.pinned (OpenSpec.upto bkdBoxesSpec)

/-- 'lecternlaw13.BkdTurned', WHERE WHAT IT READS IS OF BULK AT MOST 1048576: true; the input reads as it did. -/
def bkdTurnedUptoRow : OpenClaim := { program := "ytpopbkcbplmcaaa", sum := "fc64804d746290cd6b0ac04902e77e6fb049365a77b37722d48488f9c0ddf1f6", func := "lectern/lecternlaw13.BkdTurned", spec := "bkdTurned", unfollowed := true, recurses := true, apart := false, narrowed := true }
def BkdTurnedUptoSaid : Prop := bkdTurnedUptoRow.holds Try.pinned (OpenSpec.upto bkdTurnedSpec)

/-- 'lecternlaw13.BkdOwn', WHERE WHAT IT READS IS OF BULK AT MOST 1048576: true; the input reads as it did. -/
def bkdOwnUptoRow : OpenClaim := { program := "ytpopbkcbplmcaaa", sum := "fc64804d746290cd6b0ac04902e77e6fb049365a77b37722d48488f9c0ddf1f6", func := "lectern/lecternlaw13.BkdOwn", spec := "bkdOwn", unfollowed := true, recurses := true, apart := false, narrowed := true }
def BkdOwnUptoSaid : Prop := bkdOwnUptoRow.holds Try.pinned (OpenSpec.upto bkdOwnSpec)

/-- 'lecternlaw13.BkdRanges', WHERE WHAT IT READS IS OF BULK AT MOST 1048576: true; the input reads as it did. -/
def bkdRangesUptoRow : OpenClaim := { program := "ytpopbkcbplmcaaa", sum := "fc64804d746290cd6b0ac04902e77e6fb049365a77b37722d48488f9c0ddf1f6", func := "lectern/lecternlaw13.BkdRanges", spec := "bkdRanges", unfollowed := true, recurses := true, apart := false, narrowed := true }
def BkdRangesUptoSaid : Prop := bkdRangesUptoRow.holds Try.pinned (OpenSpec.upto bkdRangesSpec)

end Rows
end Go.Proofs.Ytpopbkcbplmcaaa
