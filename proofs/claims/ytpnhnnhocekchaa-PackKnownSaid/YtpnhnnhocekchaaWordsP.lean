/- Rows of bits as words of 64, in plain Lean. -/
import Derived.Test.YtpnhnnhocekchaaBase
import Derived.Laws.BitsAllLaws
import Derived.Lib.TrailingZeros
namespace Go.Proofs.Ytpnhnnhocekchaa
set_option linter.unusedVariables false
set_option linter.unusedSimpArgs false
open Go.RowKit

def wN (f : Nat → Bool) : Nat → Nat
  | 0 => 0
  | k + 1 => wN f k + if f k = true then 2 ^ k else 0
theorem wN_lt (f : Nat → Bool) : ∀ k, wN f k < 2 ^ k
  | 0 => by simp [wN]
  | k + 1 => by
    have := wN_lt f k
    rw [wN, Nat.pow_succ]
    split <;> omega
theorem wN_bit (f : Nat → Bool) : ∀ k j, (wN f k).testBit j = (decide (j < k) && f j)
  | 0, j => by simp [wN]
  | k + 1, j => by
    have hl := wN_lt f k
    have ih := wN_bit f k j
    rw [wN]
    by_cases hj : k < j
    · have h2 : (2 : Nat) ^ (k + 1) ≤ 2 ^ j := Nat.pow_le_pow_right (by omega) hj
      rw [Nat.testBit_lt_two_pow (by rw [Nat.pow_succ] at h2; split <;> omega), decide_eq_false (by omega)]
      rfl
    · by_cases hf : f k = true
      · rw [if_pos hf, Nat.add_comm]
        by_cases hjk : j = k
        · subst hjk
          rw [Nat.testBit_two_pow_add_eq, ih, hf]
          simp
        · rw [Nat.testBit_two_pow_add_gt (by omega), ih, decide_eq_true (by omega), decide_eq_true (by omega)]
      · rw [if_neg hf, Nat.add_zero, ih]
        by_cases hjk : j = k
        · subst hjk
          simp [hf]
        · rw [decide_eq_true (by omega), decide_eq_true (by omega)]
theorem wN_ext {n k : Nat} {f : Nat → Bool} (hn : n < 2 ^ k) (h : ∀ j, j < k → n.testBit j = f j) : n = wN f k := by
  apply Nat.eq_of_testBit_eq
  intro j
  rw [wN_bit]
  by_cases hj : j < k
  · rw [h j hj, decide_eq_true hj]; rfl
  · rw [decide_eq_false hj, Nat.testBit_lt_two_pow (Nat.lt_of_lt_of_le hn (Nat.pow_le_pow_right (by omega) (by omega)))]
    rfl
theorem wN_congr {f g : Nat → Bool} : ∀ {k : Nat}, (∀ j, j < k → f j = g j) → wN f k = wN g k
  | 0, _ => rfl
  | k + 1, h => by rw [wN, wN, wN_congr (fun j hj => h j (by omega)), h k (by omega)]

/-- is number j held? -/
def hasN (l : List Bool) (j : Nat) : Bool := l.getD j false
theorem hasN_big {l : List Bool} {j : Nat} (h : l.length ≤ j) : hasN l j = false := by
  unfold hasN
  rw [List.getD_eq_getElem?_getD, List.getElem?_eq_none h]
  rfl
theorem hasN_set {l : List Bool} {i : Nat} {b : Bool} (hi : i < l.length) (j : Nat) : hasN (l.set i b) j = if j = i then b else hasN l j := by
  unfold hasN
  rw [List.getD_eq_getElem?_getD, List.getD_eq_getElem?_getD, List.getElem?_set]
  by_cases h : j = i
  · subst h; simp [hi]
  · rw [if_neg (fun e => h e.symm), if_neg h]
/-- word i of a row; its byte i. -/
def wd (l : List Bool) (i : Nat) : Nat := wN (fun j => hasN l (64 * i + j)) 64
theorem wd_lt (l : List Bool) (i : Nat) : wd l i < 18446744073709551616 := wN_lt _ 64
theorem wd_bit (l : List Bool) (i j : Nat) : (wd l i).testBit j = (decide (j < 64) && hasN l (64 * i + j)) := wN_bit _ 64 j
def wcount (n : Nat) : Nat := (n + 63) / 64
def wds (l : List Bool) : List Value := (List.range (wcount l.length)).map fun i => Value.int .u64 (wd l i : Nat)
theorem wds_len (l : List Bool) : (wds l).length = wcount l.length := by simp [wds]
theorem wds_at (l : List Bool) {i : Nat} (h : i < wcount l.length) : (wds l)[i]? = some (.int .u64 (wd l i : Nat)) := by
  simp [wds, List.getElem?_range h]
theorem wd_set {l : List Bool} {i : Nat} {b : Bool} (hi : i < l.length) {k : Nat} (hk : k ≠ i / 64) : wd (l.set i b) k = wd l k := by
  unfold wd
  apply wN_congr
  intro j hj
  rw [hasN_set hi, if_neg (by omega)]
theorem wd_on {l : List Bool} {i : Nat} (hi : i < l.length) : wd l (i / 64) ||| 2 ^ (i % 64) = wd (l.set i true) (i / 64) := by
  refine wN_ext (Nat.or_lt_two_pow (wd_lt _ _) (Nat.pow_lt_pow_right (by omega) (by omega))) ?_
  intro j hj
  rw [Nat.testBit_or, wd_bit, hasN_set hi, Nat.testBit_two_pow, decide_eq_true hj]
  by_cases h : i % 64 = j
  · rw [decide_eq_true h, if_pos (by omega)]; simp
  · rw [decide_eq_false h, if_neg (by omega)]; simp
theorem testBit_not64 {p j : Nat} (hp : p < 18446744073709551616) (hj : j < 64) : (18446744073709551615 - p).testBit j = !p.testBit j := by
  have h := Nat.testBit_two_pow_sub_succ (n := 64) (x := p) hp j
  rw [show (18446744073709551615 - p) = 2 ^ 64 - (p + 1) by omega, h, decide_eq_true hj]
  rfl
theorem wd_off {l : List Bool} {i : Nat} (hi : i < l.length) : wd l (i / 64) &&& (18446744073709551615 - 2 ^ (i % 64)) = wd (l.set i false) (i / 64) := by
  have hp : 2 ^ (i % 64) < 18446744073709551616 := Nat.pow_lt_pow_right (a := 2) (n := 64) (by omega) (by omega)
  refine wN_ext (Nat.lt_of_le_of_lt Nat.and_le_left (wd_lt _ _)) ?_
  intro j hj
  rw [Nat.testBit_and, wd_bit, hasN_set hi, testBit_not64 hp hj, Nat.testBit_two_pow, decide_eq_true hj]
  by_cases h : i % 64 = j
  · rw [decide_eq_true h, if_pos (by omega)]; simp
  · rw [decide_eq_false h, if_neg (by omega)]; simp
theorem wds_set {l : List Bool} {i : Nat} {b : Bool} (hi : i < l.length) {v : Nat} (hv : v = wd (l.set i b) (i / 64)) : (wds l).set (i / 64) (.int .u64 (v : Nat)) = wds (l.set i b) := by
  subst hv
  apply List.ext_getElem
  · simp [wds]
  · intro k h1 h2
    have hk : k < wcount l.length := by simpa [wds] using h1
    by_cases e : i / 64 = k
    · subst e
      simp [wds]
    · rw [List.getElem_set_ne e]
      simp only [wds, List.getElem_map, List.getElem_range]
      rw [wd_set hi (fun h => e h.symm)]
theorem wd_none (n i : Nat) : wd (List.replicate n false) i = 0 := by
  apply Nat.eq_of_testBit_eq
  intro j
  rw [wd_bit, Nat.zero_testBit]
  have : hasN (List.replicate n false) (64 * i + j) = false := by
    unfold hasN
    rw [List.getD_eq_getElem?_getD, List.getElem?_replicate]
    split <;> rfl
  rw [this]
  simp
theorem wds_none (n : Nat) : wds (List.replicate n false) = List.replicate (wcount n) (.int .u64 0) := by
  apply List.ext_getElem
  · simp [wds]
  · intro k h1 h2
    simp [wds, wd_none]
/-- bits shifted down. -/
theorem wd_shr (l : List Bool) (i : Nat) (j : Nat) : (wd l (i / 64) >>> (i % 64)).testBit j = (decide (i % 64 + j < 64) && hasN l (i + j)) := by
  rw [Nat.testBit_shiftRight, wd_bit]
  by_cases h : i % 64 + j < 64
  · rw [decide_eq_true h, show 64 * (i / 64) + (i % 64 + j) = i + j by omega]
  · rw [decide_eq_false h]; rfl
theorem wd_has (l : List Bool) (i : Nat) : (wd l (i / 64) >>> (i % 64)) % 2 = if hasN l i = true then 1 else 0 := by
  have h := wd_shr l i 0
  rw [Nat.testBit_zero, Nat.add_zero, Nat.add_zero, decide_eq_true (show i % 64 < 64 by omega), Bool.true_and] at h
  by_cases hb : hasN l i = true
  · rw [hb] at h
    rw [if_pos hb]
    exact of_decide_eq_true h
  · rw [if_neg hb]
    have h2 : hasN l i = false := by simpa using hb
    rw [h2] at h
    have := of_decide_eq_false h
    omega
end Go.Proofs.Ytpnhnnhocekchaa
