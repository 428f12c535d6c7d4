/- A sealed file, opened, in plain Lean. -/
import Derived.Test.YtapfbjaopbcgjaaSealP
import Derived.Test.YtapfbjaopbcgjaaSizeP
import Derived.Test.YtapfbjaopbcgjaaBytesP
namespace Go.Proofs.Ytapfbjaopbcgjaa
set_option linter.unusedVariables false
set_option linter.unusedSimpArgs false
open Go.RowKit

def kindOK (d : List UInt8) : Bool := decide (4 ≤ d.length ∧ d.take 3 = [76, 84, 1])
def crcOK (d : List UInt8) : Bool := decide (d.drop (d.length - 4) = fourB (crcOf (d.take (d.length - 4))))
/-- sizes, one behind the other. -/
def sizesR (bs : List UInt8) (a : Nat) (e : Int) : Nat → List Nat × Nat × Int
  | 0 => ([], a, e)
  | j + 1 => ((sizesR bs a e j).1 ++ [(sizeS bs (sizesR bs a e j).2.1 (sizesR bs a e j).2.2 16777216).1], (sizeS bs (sizesR bs a e j).2.1 (sizesR bs a e j).2.2 16777216).2)
/-- blocks, one behind the other. -/
def blocksR (bs : List UInt8) (szs : List Nat) (a : Nat) (e : Int) : Nat → List (List UInt8) × Nat × Int
  | 0 => ([], a, e)
  | j + 1 => ((blocksR bs szs a e j).1 ++ [(bytesS bs (blocksR bs szs a e j).2.1 (blocksR bs szs a e j).2.2 (szs.getD j 0 : Nat)).1], (bytesS bs (blocksR bs szs a e j).2.1 (blocksR bs szs a e j).2.2 (szs.getD j 0 : Nat)).2)
theorem sizesR_len (bs : List UInt8) (a : Nat) (e : Int) : ∀ j, (sizesR bs a e j).1.length = j
  | 0 => rfl
  | j + 1 => by simp [sizesR, sizesR_len bs a e j]
theorem blocksR_len (bs : List UInt8) (szs : List Nat) (a : Nat) (e : Int) : ∀ j, (blocksR bs szs a e j).1.length = j
  | 0 => rfl
  | j + 1 => by simp [blocksR, blocksR_len bs szs a e j]
theorem sizesR_at (bs : List UInt8) (a : Nat) (e : Int) : ∀ k j, j < k → (sizesR bs a e k).1.getD j 0 = (sizeS bs (sizesR bs a e j).2.1 (sizesR bs a e j).2.2 16777216).1
  | 0, j, h => by omega
  | k + 1, j, h => by
    have hl := sizesR_len bs a e k
    simp only [sizesR, List.getD_eq_getElem?_getD]
    by_cases hj : j < k
    · rw [List.getElem?_append_left (by omega)]
      have := sizesR_at bs a e k j hj
      rwa [List.getD_eq_getElem?_getD] at this
    · obtain rfl : j = k := by omega
      rw [List.getElem?_append_right (by omega), hl]
      simp
theorem sizeS_le (bs : List UInt8) (a : Nat) (e : Int) (m : Nat) : (sizeS bs a e m).1 ≤ m := by
  unfold sizeS
  split
  · cases h : sizeR (bs.drop a) m with
    | none => simp
    | some x =>
      obtain ⟨u, k⟩ := x
      unfold sizeR at h
      split at h
      · cases h
      · split at h
        · cases h
        · injection h with h
          injection h with h1 h2
          simp
          omega
  · simp
/-- the error behind End: 20 or none. -/
def endEP (bs : List UInt8) (a : Nat) (e : Int) : Int := if e = 0 ∧ ¬ a < bs.length then 0 else 20
/-- what lies between the head and the check. -/
def midB (d : List UInt8) : List UInt8 := (d.take (d.length - 4)).drop 4
def goodB (kind : UInt8) (d : List UInt8) : Bool := decide (kindOK d = true ∧ d.getD 3 0 = kind ∧ 8 ≤ d.length ∧ crcOK d = true)
def readB (m : List UInt8) : List (List UInt8) × Nat × Int :=
  blocksR m (sizesR m (sizeS m 0 0 1024).2.1 (sizeS m 0 0 1024).2.2 (sizeS m 0 0 1024).1).1 (sizesR m (sizeS m 0 0 1024).2.1 (sizeS m 0 0 1024).2.2 (sizeS m 0 0 1024).1).2.1 (sizesR m (sizeS m 0 0 1024).2.1 (sizeS m 0 0 1024).2.2 (sizeS m 0 0 1024).1).2.2 (sizeS m 0 0 1024).1
def openE (kind : UInt8) (d : List UInt8) : Int :=
  if 16777216 < d.length then 3 else if goodB kind d = true then endEP (midB d) (readB (midB d)).2.1 (readB (midB d)).2.2 else 20
def openL (kind : UInt8) (d : List UInt8) : List (List UInt8) := if openE kind d = 0 then (readB (midB d)).1 else []
end Go.Proofs.Ytapfbjaopbcgjaa
