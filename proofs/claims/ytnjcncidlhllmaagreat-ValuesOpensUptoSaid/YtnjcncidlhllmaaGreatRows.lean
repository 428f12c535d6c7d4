/-
  No cell of these rows narrows 'for every input' (looked for: loops, veiled, ifaces, maps, wideKeys, modest, calm, conditions, laid).
  DERIVED. THE GIVEN ROWS OF THIS SEAT. 4 by the template 'for every input the law returns true; each argument reads behind the call as it read before'; 0 by the template 'total and deterministic' (their statements: YtnjcncidlhllmaaGreatTotals.lean).
  GIVEN WITH THE SEED: the statements are not yours to turn. If you find one false, say at which input.
  Laid BY PROGRAM, IN A SANDBOX (cutbox-rows.mjs): the forced cells as the released guide's own fill.sh prints them over the translation 704e828b55eb07de… (all of the seat's roots in one cut). By AI agents, Wed Nov 11 2026. No macro, syntax, notation, axiom, sorry.
-/
import Derived.Test.YtnjcncidlhllmaaGreatChecked
import GoSem.Claim
import GoSem.ClaimJoined
import GoSem.ClaimMapViews
import Derived.JoinedTies
import Derived.KernelRfl
namespace Go.Proofs.YtnjcncidlhllmaaGreat
/- THE CELL 'sum', in the pinned program and in every row, IS THE sha256 OF THE DUMP (.gsa) THAT YtnjcncidlhllmaaGreatProg.lean LOADS. Nothing in Lean hashes anything: it is a label: what it is worth is what the hold of that sum in a sandbox is worth. -/
noncomputable def Tryz.pinned : Pinned := { name := "ytnjcncidlhllmaagreat", sum := "704e828b55eb07de7cf55ddb40f4903e85a94f5b0d18f7a33beb076227593e2a", checked := Tryz.checked }
namespace Rows
def none {H : Type} : Left H := { results := [], args := [] }

/-- 'lecternlaw12.ValuesCut': WHATEVER THE INPUT: true; the input reads as it did. -/
def valuesCutSpec : ChangeSpec := { name := "valuesCut", fn := fun _ => fun
  | [d1, d2, d3, d4] => { results := [.lit (.bool true)], args := [d1, d2, d3, d4] }
  | _ => none }
def valuesCutRow : OpenClaim := { program := "ytnjcncidlhllmaagreat", sum := "704e828b55eb07de7cf55ddb40f4903e85a94f5b0d18f7a33beb076227593e2a", func := "lectern/lecternlaw12.ValuesCut", spec := "valuesCut", unfollowed := true, recurses := true, apart := false }
def ValuesCutSaid : Prop := valuesCutRow.holds Tryz.pinned (OpenSpec.ofChange valuesCutSpec)

/-- ITS FALSE NEIGHBOUR: 'it returns false'. Refute it at one input. -/
def valuesCutWrong : ChangeSpec := { name := "valuesCut", fn := fun _ => fun
  | [d1, d2, d3, d4] => { results := [.lit (.bool false)], args := [d1, d2, d3, d4] }
  | _ => none }
def ValuesCutWrongFalsely : Prop := valuesCutRow.holds Tryz.pinned (OpenSpec.ofChange valuesCutWrong)

/-- 'lecternlaw12.ValuesOwn': WHATEVER THE INPUT: true; the input reads as it did. -/
def valuesOwnSpec : ChangeSpec := { name := "valuesOwn", fn := fun _ => fun
  | [d1, d2] => { results := [.lit (.bool true)], args := [d1, d2] }
  | _ => none }
def valuesOwnRow : OpenClaim := { program := "ytnjcncidlhllmaagreat", sum := "704e828b55eb07de7cf55ddb40f4903e85a94f5b0d18f7a33beb076227593e2a", func := "lectern/lecternlaw12.ValuesOwn", spec := "valuesOwn", unfollowed := true, recurses := true, apart := false }
def ValuesOwnSaid : Prop := valuesOwnRow.holds Tryz.pinned (OpenSpec.ofChange valuesOwnSpec)

/-- ITS FALSE NEIGHBOUR: 'it returns false'. Refute it at one input. -/
def valuesOwnWrong : ChangeSpec := { name := "valuesOwn", fn := fun _ => fun
  | [d1, d2] => { results := [.lit (.bool false)], args := [d1, d2] }
  | _ => none }
def ValuesOwnWrongFalsely : Prop := valuesOwnRow.holds Tryz.pinned (OpenSpec.ofChange valuesOwnWrong)

/-- 'lecternlaw12.ValuesOpens': WHATEVER THE INPUT: true; the input reads as it did. -/
def valuesOpensSpec : ChangeSpec := { name := "valuesOpens", fn := fun _ => fun
  | [d] => { results := [.lit (.bool true)], args := [d] }
  | _ => none }
def valuesOpensRow : OpenClaim := { program := "ytnjcncidlhllmaagreat", sum := "704e828b55eb07de7cf55ddb40f4903e85a94f5b0d18f7a33beb076227593e2a", func := "lectern/lecternlaw12.ValuesOpens", spec := "valuesOpens", unfollowed := true, recurses := true, apart := false }
def ValuesOpensSaid : Prop := valuesOpensRow.holds Tryz.pinned (OpenSpec.ofChange valuesOpensSpec)

/-- ITS FALSE NEIGHBOUR: 'it returns false'. Refute it at one input. -/
def valuesOpensWrong : ChangeSpec := { name := "valuesOpens", fn := fun _ => fun
  | [d] => { results := [.lit (.bool false)], args := [d] }
  | _ => none }
def ValuesOpensWrongFalsely : Prop := valuesOpensRow.holds Tryz.pinned (OpenSpec.ofChange valuesOpensWrong)

/-- 'lecternlaw12.ValuesBack': WHATEVER THE INPUT: true; the input reads as it did. -/
def valuesBackSpec : ChangeSpec := { name := "valuesBack", fn := fun _ => fun
  | [d1, d2] => { results := [.lit (.bool true)], args := [d1, d2] }
  | _ => none }
def valuesBackRow : OpenClaim := { program := "ytnjcncidlhllmaagreat", sum := "704e828b55eb07de7cf55ddb40f4903e85a94f5b0d18f7a33beb076227593e2a", func := "lectern/lecternlaw12.ValuesBack", spec := "valuesBack", unfollowed := true, recurses := true, apart := false }
def ValuesBackSaid : Prop := valuesBackRow.holds Tryz.pinned (OpenSpec.ofChange valuesBackSpec)

/-- ITS FALSE NEIGHBOUR: 'it returns false'. Refute it at one input. -/
def valuesBackWrong : ChangeSpec := { name := "valuesBack", fn := fun _ => fun
  | [d1, d2] => { results := [.lit (.bool false)], args := [d1, d2] }
  | _ => none }
def ValuesBackWrongFalsely : Prop := valuesBackRow.holds Tryz.pinned (OpenSpec.ofChange valuesBackWrong)

/- THE SECOND FORM. 'bulk': how many values and letters a reading holds, each counted each time it is reached (what is shared counts as often as it is met; a slice's spare places count too). A statement '..UptoSaid' is the law's where the arguments, and the package variables that the reading takes, are together of bulk at most 1048576: NARROWER than '..Said'. Prove '..Said' where nothing that the law and all that it calls make is longer than what came in: it says more and counts as full. Else prove '..UptoSaid'. A law counts once. -/
mutual
def uptoBulk {H : Type} : DataW H → Nat
  | .lit (.string bytes) => bytes.length + 1
  | .lit _ => 1
  | .nil => 1
  | .ptr d => uptoBulk d + 1
  | .slice elems spare => uptoBulkAll elems + uptoBulkAll spare + 1
  | .agg parts => uptoBulkAll parts + 1
  | .iface _ d => uptoBulk d + 1
  | .map entries => uptoBulkEntries entries + 1
  | .held _ => 1
def uptoBulkAll {H : Type} : List (DataW H) → Nat
  | [] => 0
  | d :: r => uptoBulk d + uptoBulkAll r
def uptoBulkEntries {H : Type} : List (Lit × DataW H) → Nat
  | [] => 0
  | x :: r => uptoBulkEntry x + uptoBulkEntries r
def uptoBulkEntry {H : Type} : Lit × DataW H → Nat
  | (.string bytes, d) => bytes.length + uptoBulk d + 1
  | (_, d) => uptoBulk d + 1
 end
def uptoSmall : (H : Type) → List (DataW H) → Bool := fun _ ds => decide (uptoBulkAll ds ≤ 1048576)
def OpenSpec.upto (s : _root_.Go.ChangeSpec) : _root_.Go.OpenSpec := { _root_.Go.OpenSpec.ofChange s with cond := some uptoSmall }

/-- 'lecternlaw12.ValuesCut', WHERE WHAT IT READS IS OF BULK AT MOST 1048576: true; the input reads as it did. -/
def valuesCutUptoRow : OpenClaim := { program := "ytnjcncidlhllmaagreat", sum := "704e828b55eb07de7cf55ddb40f4903e85a94f5b0d18f7a33beb076227593e2a", func := "lectern/lecternlaw12.ValuesCut", spec := "valuesCut", unfollowed := true, recurses := true, apart := false, narrowed := true }
def ValuesCutUptoSaid : Prop := valuesCutUptoRow.holds Tryz.pinned (OpenSpec.upto valuesCutSpec)

/-- 'lecternlaw12.ValuesOwn', WHERE WHAT IT READS IS OF BULK AT MOST 1048576: true; the input reads as it did. -/
def valuesOwnUptoRow : OpenClaim := { program := "ytnjcncidlhllmaagreat", sum := "704e828b55eb07de7cf55ddb40f4903e85a94f5b0d18f7a33beb076227593e2a", func := "lectern/lecternlaw12.ValuesOwn", spec := "valuesOwn", unfollowed := true, recurses := true, apart := false, narrowed := true }
def ValuesOwnUptoSaid : Prop := valuesOwnUptoRow.holds Tryz.pinned (OpenSpec.upto valuesOwnSpec)

/-- 'lecternlaw12.ValuesOpens', WHERE WHAT IT READS IS OF BULK AT MOST 1048576: true; the input reads as it did. -/
def valuesOpensUptoRow : OpenClaim := { program := "ytnjcncidlhllmaagreat", sum := "704e828b55eb07de7cf55ddb40f4903e85a94f5b0d18f7a33beb076227593e2a", func := "lectern/lecternlaw12.ValuesOpens", spec := "valuesOpens", unfollowed := true, recurses := true, apart := false, narrowed := true }
def ValuesOpensUptoSaid : Prop := valuesOpensUptoRow.holds Tryz.pinned (OpenSpec.upto valuesOpensSpec)

/-- 'lecternlaw12.ValuesBack', WHERE WHAT IT READS IS OF BULK AT MOST 1048576: true; the input reads as it did. -/
def valuesBackUptoRow : OpenClaim := { program := "ytnjcncidlhllmaagreat", sum := "704e828b55eb07de7cf55ddb40f4903e85a94f5b0d18f7a33beb076227593e2a", func := "lectern/lecternlaw12.ValuesBack", spec := "valuesBack", unfollowed := true, recurses := true, apart := false, narrowed := true }
def ValuesBackUptoSaid : Prop := valuesBackUptoRow.holds Tryz.pinned (OpenSpec.upto valuesBackSpec)

end Rows
end Go.Proofs.YtnjcncidlhllmaaGreat
