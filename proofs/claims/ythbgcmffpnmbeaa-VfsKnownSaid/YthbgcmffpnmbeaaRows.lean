/-
  No cell of these rows narrows 'for every input' (looked for: loops, veiled, ifaces, maps, wideKeys, modest, calm, conditions, laid).
  DERIVED. THE GIVEN ROWS OF THIS SEAT. 5 by the template 'for every input the law returns true; each argument reads behind the call as it read before'; 0 by the template 'total and deterministic' (their statements: YthbgcmffpnmbeaaTotals.lean).
  GIVEN WITH THE SEED: the statements are not yours to turn. If you find one false, say at which input.
  Laid BY PROGRAM, IN A SANDBOX (cutbox-rows.mjs): the forced cells as the released guide's own fill.sh prints them over the translation 05f6abba3bb9a2e0… (all of the seat's roots in one cut). By AI agents, Wed Nov 11 2026. No macro, syntax, notation, axiom, sorry.
-/
import Derived.Test.YthbgcmffpnmbeaaChecked
import GoSem.Claim
import GoSem.ClaimJoined
import GoSem.ClaimMapViews
import Derived.JoinedTies
import Derived.KernelRfl
namespace Go.Proofs.Ythbgcmffpnmbeaa
/- THE CELL 'sum', in the pinned program and in every row, IS THE sha256 OF THE DUMP (.gsa) THAT YthbgcmffpnmbeaaProg.lean LOADS. Nothing in Lean hashes anything: it is a label: what it is worth is what the hold of that sum in a sandbox is worth. -/
noncomputable def Try.pinned : Pinned := { name := "ythbgcmffpnmbeaa", sum := "05f6abba3bb9a2e092031fa24c5d0c47f26acc51f06468e26fbffb04fc4f3c74", checked := Try.checked }
namespace Rows
def none {H : Type} : Left H := { results := [], args := [] }

/-- 'lecternlaw01.VfsDurable': WHATEVER THE INPUT: true; the input reads as it did. -/
def vfsDurableSpec : ChangeSpec := { name := "vfsDurable", fn := fun _ => fun
  | [d1, d2, d3] => { results := [.lit (.bool true)], args := [d1, d2, d3] }
  | _ => none }
def vfsDurableRow : OpenClaim := { program := "ythbgcmffpnmbeaa", sum := "05f6abba3bb9a2e092031fa24c5d0c47f26acc51f06468e26fbffb04fc4f3c74", func := "lectern/lecternlaw01.VfsDurable", spec := "vfsDurable", inPlace := ["maps.clone"], unfollowed := true, recurses := true, apart := false }
def VfsDurableSaid : Prop := vfsDurableRow.holds Try.pinned (OpenSpec.ofChange vfsDurableSpec)

/-- ITS FALSE NEIGHBOUR: 'it returns false'. Refute it at one input. -/
def vfsDurableWrong : ChangeSpec := { name := "vfsDurable", fn := fun _ => fun
  | [d1, d2, d3] => { results := [.lit (.bool false)], args := [d1, d2, d3] }
  | _ => none }
def VfsDurableWrongFalsely : Prop := vfsDurableRow.holds Try.pinned (OpenSpec.ofChange vfsDurableWrong)

/-- 'lecternlaw01.VfsBegins': WHATEVER THE INPUT: true; the input reads as it did. -/
def vfsBeginsSpec : ChangeSpec := { name := "vfsBegins", fn := fun _ => fun
  | [d1, d2] => { results := [.lit (.bool true)], args := [d1, d2] }
  | _ => none }
def vfsBeginsRow : OpenClaim := { program := "ythbgcmffpnmbeaa", sum := "05f6abba3bb9a2e092031fa24c5d0c47f26acc51f06468e26fbffb04fc4f3c74", func := "lectern/lecternlaw01.VfsBegins", spec := "vfsBegins", inPlace := ["maps.clone"], unfollowed := true, recurses := true, apart := false }
def VfsBeginsSaid : Prop := vfsBeginsRow.holds Try.pinned (OpenSpec.ofChange vfsBeginsSpec)

/-- ITS FALSE NEIGHBOUR: 'it returns false'. Refute it at one input. -/
def vfsBeginsWrong : ChangeSpec := { name := "vfsBegins", fn := fun _ => fun
  | [d1, d2] => { results := [.lit (.bool false)], args := [d1, d2] }
  | _ => none }
def VfsBeginsWrongFalsely : Prop := vfsBeginsRow.holds Try.pinned (OpenSpec.ofChange vfsBeginsWrong)

/-- 'lecternlaw01.VfsFails': WHATEVER THE INPUT: true; the input reads as it did. -/
def vfsFailsSpec : ChangeSpec := { name := "vfsFails", fn := fun _ => fun
  | [d1, d2, d3, d4] => { results := [.lit (.bool true)], args := [d1, d2, d3, d4] }
  | _ => none }
def vfsFailsRow : OpenClaim := { program := "ythbgcmffpnmbeaa", sum := "05f6abba3bb9a2e092031fa24c5d0c47f26acc51f06468e26fbffb04fc4f3c74", func := "lectern/lecternlaw01.VfsFails", spec := "vfsFails", inPlace := ["maps.clone"], unfollowed := true, recurses := true, apart := false }
def VfsFailsSaid : Prop := vfsFailsRow.holds Try.pinned (OpenSpec.ofChange vfsFailsSpec)

/-- ITS FALSE NEIGHBOUR: 'it returns false'. Refute it at one input. -/
def vfsFailsWrong : ChangeSpec := { name := "vfsFails", fn := fun _ => fun
  | [d1, d2, d3, d4] => { results := [.lit (.bool false)], args := [d1, d2, d3, d4] }
  | _ => none }
def VfsFailsWrongFalsely : Prop := vfsFailsRow.holds Try.pinned (OpenSpec.ofChange vfsFailsWrong)

/-- 'lecternlaw01.VfsPlays': WHATEVER THE INPUT: true; the input reads as it did. -/
def vfsPlaysSpec : ChangeSpec := { name := "vfsPlays", fn := fun _ => fun
  | [d] => { results := [.lit (.bool true)], args := [d] }
  | _ => none }
def vfsPlaysRow : OpenClaim := { program := "ythbgcmffpnmbeaa", sum := "05f6abba3bb9a2e092031fa24c5d0c47f26acc51f06468e26fbffb04fc4f3c74", func := "lectern/lecternlaw01.VfsPlays", spec := "vfsPlays", inPlace := ["maps.clone"], unfollowed := true, recurses := true, apart := false }
def VfsPlaysSaid : Prop := vfsPlaysRow.holds Try.pinned (OpenSpec.ofChange vfsPlaysSpec)

/-- ITS FALSE NEIGHBOUR: 'it returns false'. Refute it at one input. -/
def vfsPlaysWrong : ChangeSpec := { name := "vfsPlays", fn := fun _ => fun
  | [d] => { results := [.lit (.bool false)], args := [d] }
  | _ => none }
def VfsPlaysWrongFalsely : Prop := vfsPlaysRow.holds Try.pinned (OpenSpec.ofChange vfsPlaysWrong)

/-- 'lecternlaw01.VfsKnown': WHATEVER THE INPUT: true; the input reads as it did. -/
def vfsKnownSpec : ChangeSpec := { name := "vfsKnown", fn := fun _ => fun
  | [] => { results := [.lit (.bool true)], args := [] }
  | _ => none }
def vfsKnownRow : OpenClaim := { program := "ythbgcmffpnmbeaa", sum := "05f6abba3bb9a2e092031fa24c5d0c47f26acc51f06468e26fbffb04fc4f3c74", func := "lectern/lecternlaw01.VfsKnown", spec := "vfsKnown", inPlace := ["maps.clone"], unfollowed := true, recurses := true, apart := false }
def VfsKnownSaid : Prop := vfsKnownRow.holds Try.pinned (OpenSpec.ofChange vfsKnownSpec)

/-- ITS FALSE NEIGHBOUR: 'it returns false'. Refute it at one input. -/
def vfsKnownWrong : ChangeSpec := { name := "vfsKnown", fn := fun _ => fun
  | [] => { results := [.lit (.bool false)], args := [] }
  | _ => none }
def VfsKnownWrongFalsely : Prop := vfsKnownRow.holds Try.pinned (OpenSpec.ofChange vfsKnownWrong)

/- THE SECOND FORM. 'bulk': how many values and letters a reading holds, each counted each time it is reached (what is shared counts as often as it is met; a slice's spare places count too). A statement '..UptoSaid' is the law's where the arguments, and the package variables that the reading takes, are together of bulk at most 1048576: NARROWER than '..Said'. Prove '..Said' where nothing that the law and all that it calls make is longer than what came in: it says more and counts as full. Else prove '..UptoSaid'. A law counts once. -/
mutual
def uptoBulk {H : Type} : DataW H → Nat
  | .lit (.string bytes) => bytes.length + 1
  | .lit _ => 1
  | .nil => 1
  | .ptr d => uptoBulk d + 1
  | .slice elems spare => uptoBulkAll elems + uptoBulkAll spare + 1
  | .agg parts => uptoBulkAll parts + 1
  | .iface _ d => uptoBulk d + 1
  | .map entries => uptoBulkEntries entries + 1
  | .held _ => 1
def uptoBulkAll {H : Type} : List (DataW H) → Nat
  | [] => 0
  | d :: r => uptoBulk d + uptoBulkAll r
def uptoBulkEntries {H : Type} : List (Lit × DataW H) → Nat
  | [] => 0
  | x :: r => uptoBulkEntry x + uptoBulkEntries r
def uptoBulkEntry {H : Type} : Lit × DataW H → Nat
  | (.string bytes, d) => bytes.length + uptoBulk d + 1
  | (_, d) => uptoBulk d + 1
 end
def uptoSmall : (H : Type) → List (DataW H) → Bool := fun _ ds => decide (uptoBulkAll ds ≤ 1048576)
def OpenSpec.upto (s : _root_.Go.ChangeSpec) : _root_.Go.OpenSpec := { _root_.Go.OpenSpec.ofChange s with cond := some uptoSmall }

/-- 'lecternlaw01.VfsDurable', WHERE WHAT IT READS IS OF BULK AT MOST 1048576: true; the input reads as it did. -/
def vfsDurableUptoRow : OpenClaim := { program := "ythbgcmffpnmbeaa", sum := "05f6abba3bb9a2e092031fa24c5d0c47f26acc51f06468e26fbffb04fc4f3c74", func := "lectern/lecternlaw01.VfsDurable", spec := "vfsDurable", inPlace := ["maps.clone"], unfollowed := true, recurses := true, apart := false, narrowed := true }
def VfsDurableUptoSaid : Prop := vfsDurableUptoRow.holds Try.pinned (OpenSpec.upto vfsDurableSpec)

/-- 'lecternlaw01.VfsBegins', WHERE WHAT IT READS IS OF BULK AT MOST 1048576: true; the input reads as it did. -/
def vfsBeginsUptoRow : OpenClaim := { program := "ythbgcmffpnmbeaa", sum := "05f6abba3bb9a2e092031fa24c5d0c47f26acc51f06468e26fbffb04fc4f3c74", func := "lectern/lecternlaw01.VfsBegins", spec := "vfsBegins", inPlace := ["maps.clone"], unfollowed := true, recurses := true, apart := false, narrowed := true }
def VfsBeginsUptoSaid : Prop := vfsBeginsUptoRow.holds Try.pinned (OpenSpec.upto vfsBeginsSpec)

/-- 'lecternlaw01.VfsFails', WHERE WHAT IT READS IS OF BULK AT MOST 1048576: true; the input reads as it did. -/
def vfsFailsUptoRow : OpenClaim := { program := "ythbgcmffpnmbeaa", sum := "05f6abba3bb9a2e092031fa24c5d0c47f26acc51f06468e26fbffb04fc4f3c74", func := "lectern/lecternlaw01.VfsFails", spec := "vfsFails", inPlace := ["maps.clone"], unfollowed := true, recurses := true, apart := false, narrowed := true }
def VfsFailsUptoSaid : Prop := vfsFailsUptoRow.holds Try.pinned (OpenSpec.upto vfsFailsSpec)

/-- 'lecternlaw01.VfsPlays', WHERE WHAT IT READS IS OF BULK AT MOST 1048576: true; the input reads as it did. -/
def vfsPlaysUptoRow : OpenClaim := { program := "ythbgcmffpnmbeaa", sum := "05f6abba3bb9a2e092031fa24c5d0c47f26acc51f06468e26fbffb04fc4f3c74", func := "lectern/lecternlaw01.VfsPlays", spec := "vfsPlays", inPlace := ["maps.clone"], unfollowed := true, recurses := true, apart := false, narrowed := true }
def VfsPlaysUptoSaid : Prop := vfsPlaysUptoRow.holds Try.pinned (OpenSpec.upto vfsPlaysSpec)

/-- 'lecternlaw01.VfsKnown', WHERE WHAT IT READS IS OF BULK AT MOST 1048576: true; the input reads as it did. -/
def vfsKnownUptoRow : OpenClaim := { program := "ythbgcmffpnmbeaa", sum := "05f6abba3bb9a2e092031fa24c5d0c47f26acc51f06468e26fbffb04fc4f3c74", func := "lectern/lecternlaw01.VfsKnown", spec := "vfsKnown", inPlace := ["maps.clone"], unfollowed := true, recurses := true, apart := false, narrowed := true }
def VfsKnownUptoSaid : Prop := vfsKnownUptoRow.holds Try.pinned (OpenSpec.upto vfsKnownSpec)

end Rows
end Go.Proofs.Ythbgcmffpnmbeaa
