/-
  No cell of these rows narrows 'for every input' (looked for: loops, veiled, ifaces, maps, wideKeys, modest, calm, conditions, laid).
  DERIVED. THE GIVEN ROWS OF THIS SEAT. 11 by the template 'for every input the law returns true; each argument reads behind the call as it read before'; 0 by the template 'total and deterministic' (their statements: YtpnhnnhocekchaaTotals.lean).
  GIVEN WITH THE SEED: the statements are not yours to turn. If you find one false, say at which input.
  Laid BY PROGRAM, IN A SANDBOX (cutbox-rows.mjs): the forced cells as the released guide's own fill.sh prints them over the translation 11332a1658b047be… (all of the seat's roots in one cut). By AI agents, Wed Nov 11 2026. No macro, syntax, notation, axiom, sorry.
-/
import Derived.Test.YtpnhnnhocekchaaChecked
import GoSem.Claim
import GoSem.ClaimJoined
import GoSem.ClaimMapViews
import Derived.JoinedTies
import Derived.KernelRfl
namespace Go.Proofs.Ytpnhnnhocekchaa
/- THE CELL 'sum', in the pinned program and in every row, IS THE sha256 OF THE DUMP (.gsa) THAT YtpnhnnhocekchaaProg.lean LOADS. Nothing in Lean hashes anything: it is a label: what it is worth is what the hold of that sum in a sandbox is worth. -/
noncomputable def Try.pinned : Pinned := { name := "ytpnhnnhocekchaa", sum := "11332a1658b047bef2cef9a3519696c7c31f86aa8f2c74ba38d993ecd0fc7213", checked := Try.checked }
namespace Rows
def none {H : Type} : Left H := { results := [], args := [] }

/-- 'lecternlaw03.PackBits': WHATEVER THE INPUT: true; the input reads as it did. -/
def packBitsSpec : ChangeSpec := { name := "packBits", fn := fun _ => fun
  | [d1, d2, d3, d4] => { results := [.lit (.bool true)], args := [d1, d2, d3, d4] }
  | _ => none }
def packBitsRow : OpenClaim := { program := "ytpnhnnhocekchaa", sum := "11332a1658b047bef2cef9a3519696c7c31f86aa8f2c74ba38d993ecd0fc7213", func := "lectern/lecternlaw03.PackBits", spec := "packBits", unfollowed := true, recurses := true, apart := false }
def PackBitsSaid : Prop := packBitsRow.holds Try.pinned (OpenSpec.ofChange packBitsSpec)

/-- ITS FALSE NEIGHBOUR: 'it returns false'. Refute it at one input. -/
def packBitsWrong : ChangeSpec := { name := "packBits", fn := fun _ => fun
  | [d1, d2, d3, d4] => { results := [.lit (.bool false)], args := [d1, d2, d3, d4] }
  | _ => none }
def PackBitsWrongFalsely : Prop := packBitsRow.holds Try.pinned (OpenSpec.ofChange packBitsWrong)

/-- 'lecternlaw03.PackRows': WHATEVER THE INPUT: true; the input reads as it did. -/
def packRowsSpec : ChangeSpec := { name := "packRows", fn := fun _ => fun
  | [d1, d2, d3] => { results := [.lit (.bool true)], args := [d1, d2, d3] }
  | _ => none }
def packRowsRow : OpenClaim := { program := "ytpnhnnhocekchaa", sum := "11332a1658b047bef2cef9a3519696c7c31f86aa8f2c74ba38d993ecd0fc7213", func := "lectern/lecternlaw03.PackRows", spec := "packRows", unfollowed := true, recurses := true, apart := false }
def PackRowsSaid : Prop := packRowsRow.holds Try.pinned (OpenSpec.ofChange packRowsSpec)

/-- ITS FALSE NEIGHBOUR: 'it returns false'. Refute it at one input. -/
def packRowsWrong : ChangeSpec := { name := "packRows", fn := fun _ => fun
  | [d1, d2, d3] => { results := [.lit (.bool false)], args := [d1, d2, d3] }
  | _ => none }
def PackRowsWrongFalsely : Prop := packRowsRow.holds Try.pinned (OpenSpec.ofChange packRowsWrong)

/-- 'lecternlaw03.PackKnown': WHATEVER THE INPUT: true; the input reads as it did. -/
def packKnownSpec : ChangeSpec := { name := "packKnown", fn := fun _ => fun
  | [] => { results := [.lit (.bool true)], args := [] }
  | _ => none }
def packKnownRow : OpenClaim := { program := "ytpnhnnhocekchaa", sum := "11332a1658b047bef2cef9a3519696c7c31f86aa8f2c74ba38d993ecd0fc7213", func := "lectern/lecternlaw03.PackKnown", spec := "packKnown", unfollowed := true, recurses := true, apart := false }
def PackKnownSaid : Prop := packKnownRow.holds Try.pinned (OpenSpec.ofChange packKnownSpec)

/-- ITS FALSE NEIGHBOUR: 'it returns false'. Refute it at one input. -/
def packKnownWrong : ChangeSpec := { name := "packKnown", fn := fun _ => fun
  | [] => { results := [.lit (.bool false)], args := [] }
  | _ => none }
def PackKnownWrongFalsely : Prop := packKnownRow.holds Try.pinned (OpenSpec.ofChange packKnownWrong)

/-- 'lecternlaw03.PackBack': WHATEVER THE INPUT: true; the input reads as it did. -/
def packBackSpec : ChangeSpec := { name := "packBack", fn := fun _ => fun
  | [d1, d2, d3, d4] => { results := [.lit (.bool true)], args := [d1, d2, d3, d4] }
  | _ => none }
def packBackRow : OpenClaim := { program := "ytpnhnnhocekchaa", sum := "11332a1658b047bef2cef9a3519696c7c31f86aa8f2c74ba38d993ecd0fc7213", func := "lectern/lecternlaw03.PackBack", spec := "packBack", unfollowed := true, recurses := true, apart := false }
def PackBackSaid : Prop := packBackRow.holds Try.pinned (OpenSpec.ofChange packBackSpec)

/-- ITS FALSE NEIGHBOUR: 'it returns false'. Refute it at one input. -/
def packBackWrong : ChangeSpec := { name := "packBack", fn := fun _ => fun
  | [d1, d2, d3, d4] => { results := [.lit (.bool false)], args := [d1, d2, d3, d4] }
  | _ => none }
def PackBackWrongFalsely : Prop := packBackRow.holds Try.pinned (OpenSpec.ofChange packBackWrong)

/-- 'lecternlaw03.PackOne': WHATEVER THE INPUT: true; the input reads as it did. -/
def packOneSpec : ChangeSpec := { name := "packOne", fn := fun _ => fun
  | [d1, d2, d3] => { results := [.lit (.bool true)], args := [d1, d2, d3] }
  | _ => none }
def packOneRow : OpenClaim := { program := "ytpnhnnhocekchaa", sum := "11332a1658b047bef2cef9a3519696c7c31f86aa8f2c74ba38d993ecd0fc7213", func := "lectern/lecternlaw03.PackOne", spec := "packOne", unfollowed := true, recurses := true, apart := false }
def PackOneSaid : Prop := packOneRow.holds Try.pinned (OpenSpec.ofChange packOneSpec)

/-- ITS FALSE NEIGHBOUR: 'it returns false'. Refute it at one input. -/
def packOneWrong : ChangeSpec := { name := "packOne", fn := fun _ => fun
  | [d1, d2, d3] => { results := [.lit (.bool false)], args := [d1, d2, d3] }
  | _ => none }
def PackOneWrongFalsely : Prop := packOneRow.holds Try.pinned (OpenSpec.ofChange packOneWrong)

/-- 'lecternlaw03.PackShort': WHATEVER THE INPUT: true; the input reads as it did. -/
def packShortSpec : ChangeSpec := { name := "packShort", fn := fun _ => fun
  | [d1, d2, d3] => { results := [.lit (.bool true)], args := [d1, d2, d3] }
  | _ => none }
def packShortRow : OpenClaim := { program := "ytpnhnnhocekchaa", sum := "11332a1658b047bef2cef9a3519696c7c31f86aa8f2c74ba38d993ecd0fc7213", func := "lectern/lecternlaw03.PackShort", spec := "packShort", unfollowed := true, recurses := true, apart := false }
def PackShortSaid : Prop := packShortRow.holds Try.pinned (OpenSpec.ofChange packShortSpec)

/-- ITS FALSE NEIGHBOUR: 'it returns false'. Refute it at one input. -/
def packShortWrong : ChangeSpec := { name := "packShort", fn := fun _ => fun
  | [d1, d2, d3] => { results := [.lit (.bool false)], args := [d1, d2, d3] }
  | _ => none }
def PackShortWrongFalsely : Prop := packShortRow.holds Try.pinned (OpenSpec.ofChange packShortWrong)

/-- 'lecternlaw11.StoredBuilds': WHATEVER THE INPUT: true; the input reads as it did. -/
def storedBuildsSpec : ChangeSpec := { name := "storedBuilds", fn := fun _ => fun
  | [d] => { results := [.lit (.bool true)], args := [d] }
  | _ => none }
def storedBuildsRow : OpenClaim := { program := "ytpnhnnhocekchaa", sum := "11332a1658b047bef2cef9a3519696c7c31f86aa8f2c74ba38d993ecd0fc7213", func := "lectern/lecternlaw11.StoredBuilds", spec := "storedBuilds", unfollowed := true, recurses := true, apart := false }
def StoredBuildsSaid : Prop := storedBuildsRow.holds Try.pinned (OpenSpec.ofChange storedBuildsSpec)

/-- ITS FALSE NEIGHBOUR: 'it returns false'. Refute it at one input. -/
def storedBuildsWrong : ChangeSpec := { name := "storedBuilds", fn := fun _ => fun
  | [d] => { results := [.lit (.bool false)], args := [d] }
  | _ => none }
def StoredBuildsWrongFalsely : Prop := storedBuildsRow.holds Try.pinned (OpenSpec.ofChange storedBuildsWrong)

/-- 'lecternlaw11.StoredCut': WHATEVER THE INPUT: true; the input reads as it did. -/
def storedCutSpec : ChangeSpec := { name := "storedCut", fn := fun _ => fun
  | [d1, d2, d3] => { results := [.lit (.bool true)], args := [d1, d2, d3] }
  | _ => none }
def storedCutRow : OpenClaim := { program := "ytpnhnnhocekchaa", sum := "11332a1658b047bef2cef9a3519696c7c31f86aa8f2c74ba38d993ecd0fc7213", func := "lectern/lecternlaw11.StoredCut", spec := "storedCut", unfollowed := true, recurses := true, apart := false }
def StoredCutSaid : Prop := storedCutRow.holds Try.pinned (OpenSpec.ofChange storedCutSpec)

/-- ITS FALSE NEIGHBOUR: 'it returns false'. Refute it at one input. -/
def storedCutWrong : ChangeSpec := { name := "storedCut", fn := fun _ => fun
  | [d1, d2, d3] => { results := [.lit (.bool false)], args := [d1, d2, d3] }
  | _ => none }
def StoredCutWrongFalsely : Prop := storedCutRow.holds Try.pinned (OpenSpec.ofChange storedCutWrong)

/-- 'lecternlaw11.StoredOwn': WHATEVER THE INPUT: true; the input reads as it did. -/
def storedOwnSpec : ChangeSpec := { name := "storedOwn", fn := fun _ => fun
  | [d] => { results := [.lit (.bool true)], args := [d] }
  | _ => none }
def storedOwnRow : OpenClaim := { program := "ytpnhnnhocekchaa", sum := "11332a1658b047bef2cef9a3519696c7c31f86aa8f2c74ba38d993ecd0fc7213", func := "lectern/lecternlaw11.StoredOwn", spec := "storedOwn", unfollowed := true, recurses := true, apart := false }
def StoredOwnSaid : Prop := storedOwnRow.holds Try.pinned (OpenSpec.ofChange storedOwnSpec)

/-- ITS FALSE NEIGHBOUR: 'it returns false'. Refute it at one input. -/
def storedOwnWrong : ChangeSpec := { name := "storedOwn", fn := fun _ => fun
  | [d] => { results := [.lit (.bool false)], args := [d] }
  | _ => none }
def StoredOwnWrongFalsely : Prop := storedOwnRow.holds Try.pinned (OpenSpec.ofChange storedOwnWrong)

/-- 'lecternlaw11.StoredOpens': WHATEVER THE INPUT: true; the input reads as it did. -/
def storedOpensSpec : ChangeSpec := { name := "storedOpens", fn := fun _ => fun
  | [d1, d2] => { results := [.lit (.bool true)], args := [d1, d2] }
  | _ => none }
def storedOpensRow : OpenClaim := { program := "ytpnhnnhocekchaa", sum := "11332a1658b047bef2cef9a3519696c7c31f86aa8f2c74ba38d993ecd0fc7213", func := "lectern/lecternlaw11.StoredOpens", spec := "storedOpens", unfollowed := true, recurses := true, apart := false }
def StoredOpensSaid : Prop := storedOpensRow.holds Try.pinned (OpenSpec.ofChange storedOpensSpec)

/-- ITS FALSE NEIGHBOUR: 'it returns false'. Refute it at one input. -/
def storedOpensWrong : ChangeSpec := { name := "storedOpens", fn := fun _ => fun
  | [d1, d2] => { results := [.lit (.bool false)], args := [d1, d2] }
  | _ => none }
def StoredOpensWrongFalsely : Prop := storedOpensRow.holds Try.pinned (OpenSpec.ofChange storedOpensWrong)

/-- 'lecternlaw11.StoredBack': WHATEVER THE INPUT: true; the input reads as it did. -/
def storedBackSpec : ChangeSpec := { name := "storedBack", fn := fun _ => fun
  | [d] => { results := [.lit (.bool true)], args := [d] }
  | _ => none }
def storedBackRow : OpenClaim := { program := "ytpnhnnhocekchaa", sum := "11332a1658b047bef2cef9a3519696c7c31f86aa8f2c74ba38d993ecd0fc7213", func := "lectern/lecternlaw11.StoredBack", spec := "storedBack", unfollowed := true, recurses := true, apart := false }
def StoredBackSaid : Prop := storedBackRow.holds Try.pinned (OpenSpec.ofChange storedBackSpec)

/-- ITS FALSE NEIGHBOUR: 'it returns false'. Refute it at one input. -/
def storedBackWrong : ChangeSpec := { name := "storedBack", fn := fun _ => fun
  | [d] => { results := [.lit (.bool false)], args := [d] }
  | _ => none }
def StoredBackWrongFalsely : Prop := storedBackRow.holds Try.pinned (OpenSpec.ofChange storedBackWrong)

/- THE SECOND FORM. 'bulk': how many values and letters a reading holds, each counted each time it is reached (what is shared counts as often as it is met; a slice's spare places count too). A statement '..UptoSaid' is the law's where the arguments, and the package variables that the reading takes, are together of bulk at most 1048576: NARROWER than '..Said'. Prove '..Said' where nothing that the law and all that it calls make is longer than what came in: it says more and counts as full. Else prove '..UptoSaid'. A law counts once. -/
mutual
def uptoBulk {H : Type} : DataW H → Nat
  | .lit (.string bytes) => bytes.length + 1
  | .lit _ => 1
  | .nil => 1
  | .ptr d => uptoBulk d + 1
  | .slice elems spare => uptoBulkAll elems + uptoBulkAll spare + 1
  | .agg parts => uptoBulkAll parts + 1
  | .iface _ d => uptoBulk d + 1
  | .map entries => uptoBulkEntries entries + 1
  | .held _ => 1
def uptoBulkAll {H : Type} : List (DataW H) → Nat
  | [] => 0
  | d :: r => uptoBulk d + uptoBulkAll r
def uptoBulkEntries {H : Type} : List (Lit × DataW H) → Nat
  | [] => 0
  | x :: r => uptoBulkEntry x + uptoBulkEntries r
def uptoBulkEntry {H : Type} : Lit × DataW H → Nat
  | (.string bytes, d) => bytes.length + uptoBulk d + 1
  | (_, d) => uptoBulk d + 1
 end
def uptoSmall : (H : Type) → List (DataW H) → Bool := fun _ ds => decide (uptoBulkAll ds ≤ 1048576)
def OpenSpec.upto (s : _root_.Go.ChangeSpec) : _root_.Go.OpenSpec := { _root_.Go.OpenSpec.ofChange s with cond := some uptoSmall }

/-- 'lecternlaw03.PackBits', WHERE WHAT IT READS IS OF BULK AT MOST 1048576: true; the input reads as it did. -/
def packBitsUptoRow : OpenClaim := { program := "ytpnhnnhocekchaa", sum := "11332a1658b047bef2cef9a3519696c7c31f86aa8f2c74ba38d993ecd0fc7213", func := "lectern/lecternlaw03.PackBits", spec := "packBits", unfollowed := true, recurses := true, apart := false, narrowed := true }
def PackBitsUptoSaid : Prop := packBitsUptoRow.holds Try.pinned (OpenSpec.upto packBitsSpec)

/-- 'lecternlaw03.PackRows', WHERE WHAT IT READS IS OF BULK AT MOST 1048576: true; the input reads as it did. -/
def packRowsUptoRow : OpenClaim := { program := "ytpnhnnhocekchaa", sum := "11332a1658b047bef2cef9a3519696c7c31f86aa8f2c74ba38d993ecd0fc7213", func := "lectern/lecternlaw03.PackRows", spec := "packRows", unfollowed := true, recurses := true, apart := false, narrowed := true }
def PackRowsUptoSaid : Prop := packRowsUptoRow.holds Try.pinned (OpenSpec.upto packRowsSpec)

/-- 'lecternlaw03.PackKnown', WHERE WHAT IT READS IS OF BULK AT MOST 1048576: true; the input reads as it did. -/
def packKnownUptoRow : OpenClaim := { program := "ytpnhnnhocekchaa", sum := "11332a1658b047bef2cef9a3519696c7c31f86aa8f2c74ba38d993ecd0fc7213", func := "lectern/lecternlaw03.PackKnown", spec := "packKnown", unfollowed := true, recurses := true, apart := false, narrowed := true }
def PackKnownUptoSaid : Prop := packKnownUptoRow.holds Try.pinned (OpenSpec.upto packKnownSpec)

/-- 'lecternlaw03.PackBack', WHERE WHAT IT READS IS OF BULK AT MOST 1048576: true; the input reads as it did. -/
def packBackUptoRow : OpenClaim := { program := "ytpnhnnhocekchaa", sum := "11332a1658b047bef2cef9a3519696c7c31f86aa8f2c74ba38d993ecd0fc7213", func := "lectern/lecternlaw03.PackBack", spec := "packBack", unfollowed := true, recurses := true, apart := false, narrowed := true }
def PackBackUptoSaid : Prop := packBackUptoRow.holds Try.pinned (OpenSpec.upto packBackSpec)

/-- 'lecternlaw03.PackOne', WHERE WHAT IT READS IS OF BULK AT MOST 1048576: true; the input reads as it did. -/
def packOneUptoRow : OpenClaim := { program := "ytpnhnnhocekchaa", sum := "11332a1658b047bef2cef9a3519696c7c31f86aa8f2c74ba38d993ecd0fc7213", func := "lectern/lecternlaw03.PackOne", spec := "packOne", unfollowed := true, recurses := true, apart := false, narrowed := true }
def PackOneUptoSaid : Prop := packOneUptoRow.holds Try.pinned (OpenSpec.upto packOneSpec)

/-- 'lecternlaw03.PackShort', WHERE WHAT IT READS IS OF BULK AT MOST 1048576: true; the input reads as it did. -/
def packShortUptoRow : OpenClaim := { program := "ytpnhnnhocekchaa", sum := "11332a1658b047bef2cef9a3519696c7c31f86aa8f2c74ba38d993ecd0fc7213", func := "lectern/lecternlaw03.PackShort", spec := "packShort", unfollowed := true, recurses := true, apart := false, narrowed := true }
def PackShortUptoSaid : Prop := packShortUptoRow.holds Try.pinned (OpenSpec.upto packShortSpec)

/-- 'lecternlaw11.StoredBuilds', WHERE WHAT IT READS IS OF BULK AT MOST 1048576: true; the input reads as it did. -/
def storedBuildsUptoRow : OpenClaim := { program := "ytpnhnnhocekchaa", sum := "11332a1658b047bef2cef9a3519696c7c31f86aa8f2c74ba38d993ecd0fc7213", func := "lectern/lecternlaw11.StoredBuilds", spec := "storedBuilds", unfollowed := true, recurses := true, apart := false, narrowed := true }
def StoredBuildsUptoSaid : Prop := storedBuildsUptoRow.holds Try.pinned (OpenSpec.upto storedBuildsSpec)

/-- 'lecternlaw11.StoredCut', WHERE WHAT IT READS IS OF BULK AT MOST 1048576: true; the input reads as it did. -/
def storedCutUptoRow : OpenClaim := { program := "ytpnhnnhocekchaa", sum := "11332a1658b047bef2cef9a3519696c7c31f86aa8f2c74ba38d993ecd0fc7213", func := "lectern/lecternlaw11.StoredCut", spec := "storedCut", unfollowed := true, recurses := true, apart := false, narrowed := true }
def StoredCutUptoSaid : Prop := storedCutUptoRow.holds Try.pinned (OpenSpec.upto storedCutSpec)

/-- 'lecternlaw11.StoredOwn', WHERE WHAT IT READS IS OF BULK AT MOST 1048576: true; the input reads as it did. -/
def storedOwnUptoRow : OpenClaim := { program := "ytpnhnnhocekchaa", sum := "11332a1658b047bef2cef9a3519696c7c31f86aa8f2c74ba38d993ecd0fc7213", func := "lectern/lecternlaw11.StoredOwn", spec := "storedOwn", unfollowed := true, recurses := true, apart := false, narrowed := true }
def StoredOwnUptoSaid : Prop := storedOwnUptoRow.holds Try.pinned (OpenSpec.upto storedOwnSpec)

/-- 'lecternlaw11.StoredOpens', WHERE WHAT IT READS IS OF BULK AT MOST 1048576: true; the input reads as it did. -/
def storedOpensUptoRow : OpenClaim := { program := "ytpnhnnhocekchaa", sum := "11332a1658b047bef2cef9a3519696c7c31f86aa8f2c74ba38d993ecd0fc7213", func := "lectern/lecternlaw11.StoredOpens", spec := "storedOpens", unfollowed := true, recurses := true, apart := false, narrowed := true }
def StoredOpensUptoSaid : Prop := storedOpensUptoRow.holds Try.pinned (OpenSpec.upto storedOpensSpec)

/-- 'lecternlaw11.StoredBack', WHERE WHAT IT READS IS OF BULK AT MOST 1048576: true; the input reads as it did. -/
def storedBackUptoRow : OpenClaim := { program := "ytpnhnnhocekchaa", sum := "11332a1658b047bef2cef9a3519696c7c31f86aa8f2c74ba38d993ecd0fc7213", func := "lectern/lecternlaw11.StoredBack", spec := "storedBack", unfollowed := true, recurses := true, apart := false, narrowed := true }
def StoredBackUptoSaid : Prop := storedBackUptoRow.holds Try.pinned (OpenSpec.upto storedBackSpec)

end Rows
end Go.Proofs.Ytpnhnnhocekchaa
