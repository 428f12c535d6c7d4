/- The chapter's examples on sets, in plain Lean. -/
import Derived.Test.YtapfbjaopbcgjaaDoorAlgP
import Derived.Test.YtapfbjaopbcgjaaDoorAwake14
namespace Go.Proofs.YtapfbjaopbcgjaaDoor
set_option linter.unusedVariables false
set_option linter.unusedSimpArgs false
open Go.RowKit

theorem kn_full3 : List.replicate (clampN 3) true = [true, true, true] := by decide
theorem kn_of3 : ofL 3 [0, 2] = [true, false, true] := by decide
theorem kn_minus : joinL (fun p q => p && !q) [true, true, true] [true, false, true] = [false, true, false] := by decide
theorem kn_b10 : setE (ofL 10 [1, 9]) = [10, 2, 2] := by decide +kernel
theorem kn_reads : readsB [10, 2, 2] := by rw [← kn_b10]; exact setE_reads (by rw [show (ofL 10 [1, 9]).length = 10 by decide]; omega)
theorem kn_readL : readL [10, 2, 2] = ofL 10 [1, 9] := by rw [← kn_b10]; exact setE_back (by rw [show (ofL 10 [1, 9]).length = 10 by decide]; omega)
theorem kn_bad1 : ¬ readsB [10, 2, 4] := fun h => by
  have h2 := h.2 10 (by decide +kernel) (by decide +kernel)
  revert h2
  decide +kernel
theorem kn_bad2 : ¬ readsB [10, 2] := fun h => absurd h.1 (by decide +kernel)
theorem kn_bad3 : ¬ readsB [] := fun h => absurd h.1 (by decide +kernel)
theorem kn_bad4 : ¬ readsB [0, 0] := fun h => absurd h.1 (by decide +kernel)
theorem kn_at8 : held (atB [3, 5, 7] [0, 6] 8) = [0, 2] := by decide +kernel
theorem kn_e3 : enc [true, true, true].length ++ setB [true, true, true] = [3, 7] := by decide +kernel
theorem kn_e0 : enc ([] : List Bool).length ++ setB [] = [0] := by decide +kernel
theorem kn_held1 : (held [false, true, false]).take 9 = [1] := by decide +kernel
theorem kn_held2 : (held (ofL 10 [1, 9])).take 9 = [1, 9] := by decide +kernel
theorem kn_and0 : countL (joinL (fun p q => p && q) [true, true, true] []) = 0 := by decide +kernel
theorem kn_or3 : countL (joinL (fun p q => p || q) [true, true, true] []) = 3 := by decide +kernel
theorem kn_or0 : joinL (fun p q => p || q) [] [true, true, true] = [] := by decide +kernel
theorem kn_four : countL (ofL 200 [64, 63, 128, 199]) = 4 := by decide +kernel
theorem kn_or39 : countL (joinL (fun p q => p || q) [true, true, true] (List.replicate (clampN 9) true)) = 3 := by decide +kernel
theorem kn_neg : List.replicate (clampN (-1)) true = [] := by decide
theorem kn_big : clampN 16385 = 16384 := by decide
theorem cnt_true (n : Nat) : ∀ k, k ≤ n → cntN (hasN (List.replicate n true)) k = k
  | 0, _ => rfl
  | k + 1, h => by rw [cntN, cnt_true n k (by omega), hasN_true, decide_eq_true (by omega)]; rfl
theorem kn_all (n : Nat) : countL (List.replicate n true) = n := by unfold countL; rw [List.length_replicate]; exact cnt_true n n (Nat.le_refl _)
end Go.Proofs.YtapfbjaopbcgjaaDoor
