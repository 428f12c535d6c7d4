/- Words of a set laid one by one; the full set, in plain Lean. -/
import Derived.Test.YtapfbjaopbcgjaaDoorReadP
namespace Go.Proofs.YtapfbjaopbcgjaaDoor
set_option linter.unusedVariables false
set_option linter.unusedSimpArgs false
open Go.RowKit

theorem wd_word {f : Nat → Bool} {n k i : Nat} (hi : i ≠ k) : wd (atK f n (64 * (k + 1))) i = wd (atK f n (64 * k)) i := by
  unfold wd
  apply wN_congr
  intro j hj
  by_cases hn : 64 * i + j < n
  · rw [atK_has _ hn, atK_has _ hn, show decide (64 * i + j < 64 * (k + 1)) = decide (64 * i + j < 64 * k) from decide_eq_decide.2 (by omega)]
  · rw [hasN_big (by rw [atK_len]; omega), hasN_big (by rw [atK_len]; omega)]
theorem wd_here {f : Nat → Bool} {n k v : Nat} (hv : v < 2 ^ 64) (h : ∀ j, j < 64 → v.testBit j = (decide (64 * k + j < n) && f (64 * k + j))) : v = wd (atK f n (64 * (k + 1))) k := by
  refine wN_ext hv fun j hj => ?_
  rw [h j hj]
  by_cases hn : 64 * k + j < n
  · rw [atK_has _ hn, decide_eq_true hn, decide_eq_true (by omega)]
  · rw [hasN_big (by rw [atK_len]; omega), decide_eq_false hn]
    rfl
theorem full_word (n k : Nat) : 18446744073709551615 / 2 ^ (64 * (k + 1) - n) = wd (atK (fun _ => true) n (64 * (k + 1))) k := by
  refine wd_here (Nat.lt_of_le_of_lt (Nat.div_le_self _ _) (by omega)) fun j hj => ?_
  rw [← Nat.shiftRight_eq_div_pow, Nat.testBit_shiftRight, show (18446744073709551615 : Nat) = 2 ^ 64 - 1 from rfl, Nat.testBit_two_pow_sub_one]
  rw [show decide (64 * (k + 1) - n + j < 64) = decide (64 * k + j < n) from decide_eq_decide.2 (by omega)]
  simp
theorem atK_top {f : Nat → Bool} {n k : Nat} (h : n ≤ k) : atK f n k = (List.range n).map f := by
  unfold atK
  apply List.map_congr_left
  intro j hj
  rw [List.mem_range] at hj
  rw [decide_eq_true (by omega)]
  rfl
theorem range_true (n : Nat) : (List.range n).map (fun _ => true) = List.replicate n true := by
  apply List.ext_getElem
  · simp
  · intro i h1 h2
    simp
end Go.Proofs.YtapfbjaopbcgjaaDoor
