/- Bytes: what it reads, in plain Lean. -/
import Derived.Test.YtpnhnnhocekchaaRd
namespace Go.Proofs.Ytpnhnnhocekchaa
set_option linter.unusedVariables false
set_option linter.unusedSimpArgs false
open Go.RowKit

def bytesR (bs : List UInt8) (x : Int) : Option (List UInt8) := if x < 0 ∨ (bs.length : Int) < x then none else some (bs.take x.toNat)

def bytesS (bs : List UInt8) (a : Nat) (e x : Int) : List UInt8 × Nat × Int :=
  if e = 0 then (match bytesR (bs.drop a) x with | none => ([], a, 20) | some s => (s, a + x.toNat, 0)) else ([], a, e)

end Go.Proofs.Ytpnhnnhocekchaa
