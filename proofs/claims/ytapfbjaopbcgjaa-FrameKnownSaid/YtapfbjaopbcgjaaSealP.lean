/- A sealed file's bytes, in plain Lean. -/
import Derived.Test.YtapfbjaopbcgjaaCrcP
import Derived.Test.YtapfbjaopbcgjaaRefA
namespace Go.Proofs.Ytapfbjaopbcgjaa
set_option linter.unusedVariables false
set_option linter.unusedSimpArgs false
open Go.RowKit

def lensB (bss : List (List UInt8)) : List UInt8 := bss.flatMap fun b => enc b.length
def headB (kind : UInt8) (bss : List (List UInt8)) : List UInt8 := [76, 84, 1, kind] ++ enc bss.length ++ lensB bss
def bodyB (kind : UInt8) (bss : List (List UInt8)) : List UInt8 := headB kind bss ++ bss.flatten
def sealB (kind : UInt8) (bss : List (List UInt8)) : List UInt8 := bodyB kind bss ++ fourB (crcOf (bodyB kind bss))
def longB (kind : UInt8) (bss : List (List UInt8)) : Bool := decide (1024 < bss.length ∨ 16777216 < (headB kind bss).length + bss.flatten.length + 4)
theorem flat_succ {bss : List (List UInt8)} {k : Nat} {bs : List UInt8} (h : bss[k]? = some bs) : (bss.take (k + 1)).flatten = (bss.take k).flatten ++ bs := by
  obtain ⟨h1, h2⟩ := List.getElem?_eq_some_iff.1 h
  rw [List.take_succ_eq_append_getElem h1, List.flatten_append, h2]
  simp
theorem flat_le (bss : List (List UInt8)) (k : Nat) : (bss.take k).flatten.length ≤ bss.flatten.length := by
  have h : bss.flatten = (bss.take k).flatten ++ (bss.drop k).flatten := by rw [← List.flatten_append, List.take_append_drop]
  rw [h, List.length_append]
  omega
theorem lens_succ {bss : List (List UInt8)} {k : Nat} {bs : List UInt8} (h : bss[k]? = some bs) : lensB (bss.take (k + 1)) = lensB (bss.take k) ++ enc bs.length := by
  obtain ⟨h1, h2⟩ := List.getElem?_eq_some_iff.1 h
  unfold lensB
  rw [List.take_succ_eq_append_getElem h1, List.flatMap_append, h2]
  simp
theorem lens_len (bss : List (List UInt8)) : (lensB bss).length ≤ 10 * bss.length := by
  induction bss with
  | nil => simp [lensB]
  | cons b r ih =>
    have := (enc_len b.length).2
    unfold lensB at ih ⊢
    rw [List.flatMap_cons, List.length_append, List.length_cons]
    omega
theorem lens_take_len (bss : List (List UInt8)) (k : Nat) (hk : k ≤ 1024) : (lensB (bss.take k)).length ≤ 10240 := by
  have h := lens_len (bss.take k)
  rw [List.length_take] at h
  omega
end Go.Proofs.Ytapfbjaopbcgjaa
