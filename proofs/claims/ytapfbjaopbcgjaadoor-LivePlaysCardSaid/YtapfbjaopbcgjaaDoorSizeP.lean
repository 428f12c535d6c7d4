/- Size: what it reads, in plain Lean. -/
import Derived.Test.YtapfbjaopbcgjaaDoorRd
namespace Go.Proofs.YtapfbjaopbcgjaaDoor
set_option linter.unusedVariables false
set_option linter.unusedSimpArgs false
open Go.RowKit

/-! Size -/
def sizeR (bs : List UInt8) (most : Int) : Option (Nat × Nat) :=
  match dec 0 0 bs with
  | none => none
  | some (u, k) => if most < 0 ∨ most < (u : Int) then none else some (u, k)

def sizeV : Option (Nat × Nat) → Value
  | none => .tuple #[.int .i64 0, .int .i64 (-1)]
  | some (u, k) => .tuple #[.int .i64 u, .int .i64 k]

theorem sizeR_none {bs : List UInt8} {most : Int} (hd : dec 0 0 bs = none) : sizeR bs most = none := by unfold sizeR; rw [hd]

theorem sizeR_no {bs : List UInt8} {most : Int} {u k : Nat} (hd : dec 0 0 bs = some (u, k)) (h : most < 0 ∨ most < (u : Int)) : sizeR bs most = none := by
  unfold sizeR; rw [hd]; exact if_pos h

theorem sizeR_ok {bs : List UInt8} {most : Int} {u k : Nat} (hd : dec 0 0 bs = some (u, k)) (h : ¬ (most < 0 ∨ most < (u : Int))) : sizeR bs most = some (u, k) := by
  unfold sizeR; rw [hd]; exact if_neg h

def sizeS (bs : List UInt8) (a : Nat) (e most : Int) : Nat × Nat × Int :=
  if e = 0 then (match sizeR (bs.drop a) most with | none => (0, a, 20) | some (u, k) => (u, a + k, 0)) else (0, a, e)

theorem sizeR_le {bs : List UInt8} {most : Int} {u k : Nat} (h : sizeR bs most = some (u, k)) : k ≤ bs.length := by
  cases hd : dec 0 0 bs with
  | none => rw [sizeR_none hd] at h; cases h
  | some x =>
    obtain ⟨u', j⟩ := x
    have hk := dec_le _ _ _ _ _ hd
    by_cases hb : most < 0 ∨ most < (u' : Int)
    · rw [sizeR_no hd hb] at h; cases h
    · rw [sizeR_ok hd hb] at h
      injection h with h
      injection h with _ h
      omega

end Go.Proofs.YtapfbjaopbcgjaaDoor
