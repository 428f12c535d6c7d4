/-
  No cell of these rows narrows 'for every input' (looked for: loops, veiled, ifaces, maps, wideKeys, modest, calm, conditions, laid).
  DERIVED. THE GIVEN ROWS OF THIS SEAT. 6 by the template 'for every input the law returns true; each argument reads behind the call as it read before'; 0 by the template 'total and deterministic' (their statements: YtcdhbdhhknlbaaaTotals.lean).
  GIVEN WITH THE SEED: the statements are not yours to turn. If you find one false, say at which input.
  Laid BY PROGRAM, IN A SANDBOX (cutbox-rows.mjs): the forced cells as the released guide's own fill.sh prints them over the translation eed57ac3910bbf04… (all of the seat's roots in one cut). By AI agents, Wed Nov 11 2026. No macro, syntax, notation, axiom, sorry.
-/
import Derived.Test.YtcdhbdhhknlbaaaChecked
import GoSem.Claim
import GoSem.ClaimJoined
import GoSem.ClaimMapViews
import Derived.JoinedTies
import Derived.KernelRfl
namespace Go.Proofs.Ytcdhbdhhknlbaaa
/- THE CELL 'sum', in the pinned program and in every row, IS THE sha256 OF THE DUMP (.gsa) THAT YtcdhbdhhknlbaaaProg.lean LOADS. Nothing in Lean hashes anything: it is a label: what it is worth is what the hold of that sum in a sandbox is worth. -/
noncomputable def Try.pinned : Pinned := { name := "ytcdhbdhhknlbaaa", sum := "eed57ac3910bbf048a673e11835ecdfa10a3932942c91eab50fc562d74108542", checked := Try.checked }
namespace Rows
def none {H : Type} : Left H := { results := [], args := [] }

/-- 'lecternlaw09.TermsEach': WHATEVER THE INPUT: true; the input reads as it did. -/
def termsEachSpec : ChangeSpec := { name := "termsEach", fn := fun _ => fun
  | [d1, d2, d3, d4] => { results := [.lit (.bool true)], args := [d1, d2, d3, d4] }
  | _ => none }
def termsEachRow : OpenClaim := { program := "ytcdhbdhhknlbaaa", sum := "eed57ac3910bbf048a673e11835ecdfa10a3932942c91eab50fc562d74108542", func := "lectern/lecternlaw09.TermsEach", spec := "termsEach", unfollowed := true, recurses := true, apart := false }
def TermsEachSaid : Prop := termsEachRow.holds Try.pinned (OpenSpec.ofChange termsEachSpec)

/-- ITS FALSE NEIGHBOUR: 'it returns false'. Refute it at one input. -/
def termsEachWrong : ChangeSpec := { name := "termsEach", fn := fun _ => fun
  | [d1, d2, d3, d4] => { results := [.lit (.bool false)], args := [d1, d2, d3, d4] }
  | _ => none }
def TermsEachWrongFalsely : Prop := termsEachRow.holds Try.pinned (OpenSpec.ofChange termsEachWrong)

/-- 'lecternlaw09.TermsBack': WHATEVER THE INPUT: true; the input reads as it did. -/
def termsBackSpec : ChangeSpec := { name := "termsBack", fn := fun _ => fun
  | [d1, d2, d3, d4] => { results := [.lit (.bool true)], args := [d1, d2, d3, d4] }
  | _ => none }
def termsBackRow : OpenClaim := { program := "ytcdhbdhhknlbaaa", sum := "eed57ac3910bbf048a673e11835ecdfa10a3932942c91eab50fc562d74108542", func := "lectern/lecternlaw09.TermsBack", spec := "termsBack", unfollowed := true, recurses := true, apart := false }
def TermsBackSaid : Prop := termsBackRow.holds Try.pinned (OpenSpec.ofChange termsBackSpec)

/-- ITS FALSE NEIGHBOUR: 'it returns false'. Refute it at one input. -/
def termsBackWrong : ChangeSpec := { name := "termsBack", fn := fun _ => fun
  | [d1, d2, d3, d4] => { results := [.lit (.bool false)], args := [d1, d2, d3, d4] }
  | _ => none }
def TermsBackWrongFalsely : Prop := termsBackRow.holds Try.pinned (OpenSpec.ofChange termsBackWrong)

/-- 'lecternlaw09.TermsBuilds': WHATEVER THE INPUT: true; the input reads as it did. -/
def termsBuildsSpec : ChangeSpec := { name := "termsBuilds", fn := fun _ => fun
  | [d1, d2, d3, d4] => { results := [.lit (.bool true)], args := [d1, d2, d3, d4] }
  | _ => none }
def termsBuildsRow : OpenClaim := { program := "ytcdhbdhhknlbaaa", sum := "eed57ac3910bbf048a673e11835ecdfa10a3932942c91eab50fc562d74108542", func := "lectern/lecternlaw09.TermsBuilds", spec := "termsBuilds", unfollowed := true, recurses := true, apart := false }
def TermsBuildsSaid : Prop := termsBuildsRow.holds Try.pinned (OpenSpec.ofChange termsBuildsSpec)

/-- ITS FALSE NEIGHBOUR: 'it returns false'. Refute it at one input. -/
def termsBuildsWrong : ChangeSpec := { name := "termsBuilds", fn := fun _ => fun
  | [d1, d2, d3, d4] => { results := [.lit (.bool false)], args := [d1, d2, d3, d4] }
  | _ => none }
def TermsBuildsWrongFalsely : Prop := termsBuildsRow.holds Try.pinned (OpenSpec.ofChange termsBuildsWrong)

/-- 'lecternlaw09.TermsOpens': WHATEVER THE INPUT: true; the input reads as it did. -/
def termsOpensSpec : ChangeSpec := { name := "termsOpens", fn := fun _ => fun
  | [d1, d2, d3] => { results := [.lit (.bool true)], args := [d1, d2, d3] }
  | _ => none }
def termsOpensRow : OpenClaim := { program := "ytcdhbdhhknlbaaa", sum := "eed57ac3910bbf048a673e11835ecdfa10a3932942c91eab50fc562d74108542", func := "lectern/lecternlaw09.TermsOpens", spec := "termsOpens", unfollowed := true, recurses := true, apart := false }
def TermsOpensSaid : Prop := termsOpensRow.holds Try.pinned (OpenSpec.ofChange termsOpensSpec)

/-- ITS FALSE NEIGHBOUR: 'it returns false'. Refute it at one input. -/
def termsOpensWrong : ChangeSpec := { name := "termsOpens", fn := fun _ => fun
  | [d1, d2, d3] => { results := [.lit (.bool false)], args := [d1, d2, d3] }
  | _ => none }
def TermsOpensWrongFalsely : Prop := termsOpensRow.holds Try.pinned (OpenSpec.ofChange termsOpensWrong)

/-- 'lecternlaw09.TermsKnown': WHATEVER THE INPUT: true; the input reads as it did. -/
def termsKnownSpec : ChangeSpec := { name := "termsKnown", fn := fun _ => fun
  | [] => { results := [.lit (.bool true)], args := [] }
  | _ => none }
def termsKnownRow : OpenClaim := { program := "ytcdhbdhhknlbaaa", sum := "eed57ac3910bbf048a673e11835ecdfa10a3932942c91eab50fc562d74108542", func := "lectern/lecternlaw09.TermsKnown", spec := "termsKnown", unfollowed := true, recurses := true, apart := false }
def TermsKnownSaid : Prop := termsKnownRow.holds Try.pinned (OpenSpec.ofChange termsKnownSpec)

/-- ITS FALSE NEIGHBOUR: 'it returns false'. Refute it at one input. -/
def termsKnownWrong : ChangeSpec := { name := "termsKnown", fn := fun _ => fun
  | [] => { results := [.lit (.bool false)], args := [] }
  | _ => none }
def TermsKnownWrongFalsely : Prop := termsKnownRow.holds Try.pinned (OpenSpec.ofChange termsKnownWrong)

/-- 'lecternlaw09.TermsFind': WHATEVER THE INPUT: true; the input reads as it did. -/
def termsFindSpec : ChangeSpec := { name := "termsFind", fn := fun _ => fun
  | [d1, d2, d3, d4] => { results := [.lit (.bool true)], args := [d1, d2, d3, d4] }
  | _ => none }
def termsFindRow : OpenClaim := { program := "ytcdhbdhhknlbaaa", sum := "eed57ac3910bbf048a673e11835ecdfa10a3932942c91eab50fc562d74108542", func := "lectern/lecternlaw09.TermsFind", spec := "termsFind", unfollowed := true, recurses := true, apart := false }
def TermsFindSaid : Prop := termsFindRow.holds Try.pinned (OpenSpec.ofChange termsFindSpec)

/-- ITS FALSE NEIGHBOUR: 'it returns false'. Refute it at one input. -/
def termsFindWrong : ChangeSpec := { name := "termsFind", fn := fun _ => fun
  | [d1, d2, d3, d4] => { results := [.lit (.bool false)], args := [d1, d2, d3, d4] }
  | _ => none }
def TermsFindWrongFalsely : Prop := termsFindRow.holds Try.pinned (OpenSpec.ofChange termsFindWrong)

/- THE SECOND FORM. 'bulk': how many values and letters a reading holds, each counted each time it is reached (what is shared counts as often as it is met; a slice's spare places count too). A statement '..UptoSaid' is the law's where the arguments, and the package variables that the reading takes, are together of bulk at most 1048576: NARROWER than '..Said'. Prove '..Said' where nothing that the law and all that it calls make is longer than what came in: it says more and counts as full. Else prove '..UptoSaid'. A law counts once. -/
mutual
def uptoBulk {H : Type} : DataW H → Nat
  | .lit (.string bytes) => bytes.length + 1
  | .lit _ => 1
  | .nil => 1
  | .ptr d => uptoBulk d + 1
  | .slice elems spare => uptoBulkAll elems + uptoBulkAll spare + 1
  | .agg parts => uptoBulkAll parts + 1
  | .iface _ d => uptoBulk d + 1
  | .map entries => uptoBulkEntries entries + 1
  | .held _ => 1
def uptoBulkAll {H : Type} : List (DataW H) → Nat
  | [] => 0
  | d :: r => uptoBulk d + uptoBulkAll r
def uptoBulkEntries {H : Type} : List (Lit × DataW H) → Nat
  | [] => 0
  | x :: r => uptoBulkEntry x + uptoBulkEntries r
def uptoBulkEntry {H : Type} : Lit × DataW H → Nat
  | (.string bytes, d) => bytes.length + uptoBulk d + 1
  | (_, d) => uptoBulk d + 1
 end
def uptoSmall : (H : Type) → List (DataW H) → Bool := fun _ ds => decide (uptoBulkAll ds ≤ 1048576)
def OpenSpec.upto (s : _root_.Go.ChangeSpec) : _root_.Go.OpenSpec := { _root_.Go.OpenSpec.ofChange s with cond := some uptoSmall }

/-- 'lecternlaw09.TermsEach', WHERE WHAT IT READS IS OF BULK AT MOST 1048576: true; the input reads as it did. -/
def termsEachUptoRow : OpenClaim := { program := "ytcdhbdhhknlbaaa", sum := "eed57ac3910bbf048a673e11835ecdfa10a3932942c91eab50fc562d74108542", func := "lectern/lecternlaw09.TermsEach", spec := "termsEach", unfollowed := true, recurses := true, apart := false, narrowed := true }
def TermsEachUptoSaid : Prop := termsEachUptoRow.holds Try.pinned (OpenSpec.upto termsEachSpec)

/-- 'lecternlaw09.TermsBack', WHERE WHAT IT READS IS OF BULK AT MOST 1048576: true; the input reads as it did. -/
def termsBackUptoRow : OpenClaim := { program := "ytcdhbdhhknlbaaa", sum := "eed57ac3910bbf048a673e11835ecdfa10a3932942c91eab50fc562d74108542", func := "lectern/lecternlaw09.TermsBack", spec := "termsBack", unfollowed := true, recurses := true, apart := false, narrowed := true }
def TermsBackUptoSaid : Prop := termsBackUptoRow.holds Try.pinned (OpenSpec.upto termsBackSpec)

/-- 'lecternlaw09.TermsBuilds', WHERE WHAT IT READS IS OF BULK AT MOST 1048576: true; the input reads as it did. -/
def termsBuildsUptoRow : OpenClaim := { program := "ytcdhbdhhknlbaaa", sum := "eed57ac3910bbf048a673e11835ecdfa10a3932942c91eab50fc562d74108542", func := "lectern/lecternlaw09.TermsBuilds", spec := "termsBuilds", unfollowed := true, recurses := true, apart := false, narrowed := true }
def TermsBuildsUptoSaid : Prop := termsBuildsUptoRow.holds Try.pinned (OpenSpec.upto termsBuildsSpec)

/-- 'lecternlaw09.TermsOpens', WHERE WHAT IT READS IS OF BULK AT MOST 1048576: true; the input reads as it did. -/
def termsOpensUptoRow : OpenClaim := { program := "ytcdhbdhhknlbaaa", sum := "eed57ac3910bbf048a673e11835ecdfa10a3932942c91eab50fc562d74108542", func := "lectern/lecternlaw09.TermsOpens", spec := "termsOpens", unfollowed := true, recurses := true, apart := false, narrowed := true }
def TermsOpensUptoSaid : Prop := termsOpensUptoRow.holds Try.pinned (OpenSpec.upto termsOpensSpec)

/-- 'lecternlaw09.TermsKnown', WHERE WHAT IT READS IS OF BULK AT MOST 1048576: true; the input reads as it did. -/
def termsKnownUptoRow : OpenClaim := { program := "ytcdhbdhhknlbaaa", sum := "eed57ac3910bbf048a673e11835ecdfa10a3932942c91eab50fc562d74108542", func := "lectern/lecternlaw09.TermsKnown", spec := "termsKnown", unfollowed := true, recurses := true, apart := false, narrowed := true }
def TermsKnownUptoSaid : Prop := termsKnownUptoRow.holds Try.pinned (OpenSpec.upto termsKnownSpec)

/-- 'lecternlaw09.TermsFind', WHERE WHAT IT READS IS OF BULK AT MOST 1048576: true; the input reads as it did. -/
def termsFindUptoRow : OpenClaim := { program := "ytcdhbdhhknlbaaa", sum := "eed57ac3910bbf048a673e11835ecdfa10a3932942c91eab50fc562d74108542", func := "lectern/lecternlaw09.TermsFind", spec := "termsFind", unfollowed := true, recurses := true, apart := false, narrowed := true }
def TermsFindUptoSaid : Prop := termsFindUptoRow.holds Try.pinned (OpenSpec.upto termsFindSpec)

end Rows
end Go.Proofs.Ytcdhbdhhknlbaaa
