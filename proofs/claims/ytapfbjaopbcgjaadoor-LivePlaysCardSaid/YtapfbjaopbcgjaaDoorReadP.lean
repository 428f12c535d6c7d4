/- A set read from bytes, in plain Lean. -/
import Derived.Test.YtapfbjaopbcgjaaDoorAtW
import Derived.Test.YtapfbjaopbcgjaaDoorSizeP
import Derived.Test.YtapfbjaopbcgjaaDoorBytesP
namespace Go.Proofs.YtapfbjaopbcgjaaDoor
set_option linter.unusedVariables false
set_option linter.unusedSimpArgs false
open Go.RowKit

def bitB (s : List UInt8) (j : Nat) : Bool := (s.getD (j / 8) 0).toNat.testBit (j % 8)
/-- byte k is free of bits from n on. -/
def cleanB (s : List UInt8) (n k : Nat) : Prop := ∀ j, 8 * k ≤ j → j < 8 * k + 8 → n ≤ j → bitB s j = false
def clean (s : List UInt8) (n k : Nat) : Prop := ∀ j, j < 8 * k → n ≤ j → bitB s j = false
theorem clean_zero (s : List UInt8) (n : Nat) : clean s n 0 := fun j h => absurd h (by omega)
theorem clean_succ {s : List UInt8} {n k : Nat} (h : clean s n k) (h2 : cleanB s n k) : clean s n (k + 1) := fun j h1 h3 => by
  by_cases hj : j < 8 * k
  · exact h j hj h3
  · exact h2 j (by omega) (by omega) h3
theorem clean_low {s : List UInt8} {n k : Nat} (h : 8 * k ≤ n) : clean s n k := fun j h1 h3 => absurd h1 (by omega)
theorem cleanB_low {s : List UInt8} {n k : Nat} (h : 8 * k + 8 ≤ n) : cleanB s n k := fun j h0 h1 h3 => absurd h1 (by omega)
theorem byte_bits {x : Nat} (hx : x < 256) (d : Nat) : x / 2 ^ d = 0 ↔ ∀ t, d ≤ t → t < 8 → x.testBit t = false := by
  rw [← Nat.shiftRight_eq_div_pow]
  constructor
  · intro h t h1 h2
    have := congrArg (fun z => z.testBit (t - d)) h
    simp only [Nat.testBit_shiftRight, Nat.zero_testBit] at this
    rwa [show d + (t - d) = t by omega] at this
  · intro h
    apply Nat.eq_of_testBit_eq
    intro j
    rw [Nat.testBit_shiftRight, Nat.zero_testBit]
    by_cases hj : d + j < 8
    · exact h _ (by omega) hj
    · exact Nat.testBit_lt_two_pow (Nat.lt_of_lt_of_le hx (Nat.pow_le_pow_right (n := 2) (i := 8) (by omega) (by omega)))
theorem bitB_at (s : List UInt8) (k t : Nat) (ht : t < 8) : bitB s (8 * k + t) = (s.getD k 0).toNat.testBit t := by
  unfold bitB
  rw [show (8 * k + t) / 8 = k by omega, show (8 * k + t) % 8 = t by omega]
theorem cleanB_iff {s : List UInt8} {n k : Nat} (h : 8 * k ≤ n) : cleanB s n k ↔ (s.getD k 0).toNat / 2 ^ (n - 8 * k) = 0 := by
  rw [byte_bits (s.getD k 0).toNat_lt]
  constructor
  · intro hc t h1 h2
    rw [← bitB_at s k t h2]
    exact hc _ (by omega) (by omega) (by omega)
  · intro hc j h0 h1 h2
    have := hc (j - 8 * k) (by omega) (by omega)
    rw [← bitB_at s k _ (by omega)] at this
    rwa [show 8 * k + (j - 8 * k) = j by omega] at this
/-- one byte more. -/
theorem wd_byte {s : List UInt8} {n k : Nat} (hc : cleanB s n k) : wd (atK (bitB s) n (8 * k)) (k / 8) ||| ((s.getD k 0).toNat * 2 ^ (8 * (k % 8))) = wd (atK (bitB s) n (8 * k + 8)) (k / 8) := by
  have hx : (s.getD k 0).toNat < 2 ^ 8 := (s.getD k 0).toNat_lt
  rw [← Nat.shiftLeft_eq]
  refine wN_ext (Nat.or_lt_two_pow (wd_lt _ _) ?_) ?_
  · rw [Nat.shiftLeft_eq]
    calc (s.getD k 0).toNat * 2 ^ (8 * (k % 8)) < 2 ^ 8 * 2 ^ (8 * (k % 8)) := Nat.mul_lt_mul_of_pos_right hx (Nat.pow_pos (by omega))
      _ = 2 ^ (8 + 8 * (k % 8)) := (Nat.pow_add ..).symm
      _ ≤ 2 ^ 64 := Nat.pow_le_pow_right (by omega) (by omega)
  intro j hj
  rw [Nat.testBit_or, wd_bit, decide_eq_true hj, Bool.true_and, Nat.testBit_shiftLeft]
  by_cases hn : 64 * (k / 8) + j < n
  · rw [atK_has _ hn, atK_has _ hn]
    by_cases h1 : j < 8 * (k % 8)
    · rw [decide_eq_true (show 64 * (k / 8) + j < 8 * k by omega), decide_eq_true (show 64 * (k / 8) + j < 8 * k + 8 by omega), decide_eq_false (show ¬ (j ≥ 8 * (k % 8)) by omega)]
      simp
    · rw [decide_eq_false (show ¬ (64 * (k / 8) + j < 8 * k) by omega), decide_eq_true (show (j ≥ 8 * (k % 8)) by omega)]
      by_cases h2 : j < 8 * (k % 8) + 8
      · rw [decide_eq_true (show 64 * (k / 8) + j < 8 * k + 8 by omega), ← bitB_at s k _ (by omega), show 8 * k + (j - 8 * (k % 8)) = 64 * (k / 8) + j by omega]
        simp
      · rw [decide_eq_false (show ¬ (64 * (k / 8) + j < 8 * k + 8) by omega), Nat.testBit_lt_two_pow (Nat.lt_of_lt_of_le hx (Nat.pow_le_pow_right (by omega) (by omega)))]
        simp
  · rw [hasN_big (by rw [atK_len]; omega), hasN_big (by rw [atK_len]; omega)]
    by_cases h1 : j < 8 * (k % 8)
    · rw [decide_eq_false (show ¬ (j ≥ 8 * (k % 8)) by omega)]
      simp
    · by_cases h2 : j < 8 * (k % 8) + 8
      · rw [← bitB_at s k _ (by omega), show 8 * k + (j - 8 * (k % 8)) = 64 * (k / 8) + j by omega, hc _ (by omega) (by omega) (by omega)]
        simp
      · rw [Nat.testBit_lt_two_pow (Nat.lt_of_lt_of_le hx (Nat.pow_le_pow_right (by omega) (by omega)))]
        simp
theorem wd_byte_off {s : List UInt8} {n k i : Nat} (hi : i ≠ k / 8) : wd (atK (bitB s) n (8 * k + 8)) i = wd (atK (bitB s) n (8 * k)) i := by
  unfold wd
  apply wN_congr
  intro j hj
  by_cases hn : 64 * i + j < n
  · rw [atK_has _ hn, atK_has _ hn, show decide (64 * i + j < 8 * k + 8) = decide (64 * i + j < 8 * k) from decide_eq_decide.2 (by omega)]
  · rw [hasN_big (by rw [atK_len]; omega), hasN_big (by rw [atK_len]; omega)]
theorem wds_put {l l' : List Bool} {q v : Nat} (hl : l'.length = l.length) (ho : ∀ i, i ≠ q → wd l' i = wd l i) (hv : v = wd l' q) : (wds l).set q (.int .u64 (v : Nat)) = wds l' := by
  subst hv
  apply List.ext_getElem
  · simp [wds, hl]
  · intro k h1 h2
    by_cases e : q = k
    · subst e
      simp [wds]
    · rw [List.getElem_set_ne e]
      simp only [wds, List.getElem_map, List.getElem_range]
      rw [ho k (fun h => e h.symm)]
theorem BT.put {w : World} {base g gw : Nat} {l l' : List Bool} (h : BT w base g gw l) {q : Nat} (hq : q < wcount l.length) (hl : l'.length = l.length) (ho : ∀ i, i ≠ q → wd l' i = wd l i) {v : Nat} (hv : v = wd l' q) :
    BT (w.setCell ⟨gw, q, none⟩ (.int .u64 (v : Nat))) base g gw l' := by
  obtain ⟨g', e, _, _, _, _, hs⟩ := h.own.store hq
  have e1 : gw = g' := by injection e with e; injection e
  subst e1
  have hne := h.ne
  refine ⟨?_, h.low, by rw [hl]; exact h.most, ?_⟩
  · rw [hl]
    exact ((Fr.refl (Is gw) w).setCell (p := ⟨gw, q, none⟩) (fun _ => rfl) _).blk h.blk hne
  · rw [hl, ← wds_put hl ho hv]
    exact hs _
/-- what is read: the size, the bytes, the error. -/
def rdN (bs : List UInt8) : Nat := (sizeS bs 0 0 16384).1
def rdS (bs : List UInt8) : List UInt8 := (bytesS bs (sizeS bs 0 0 16384).2.1 (sizeS bs 0 0 16384).2.2 (((rdN bs + 7) / 8 : Nat) : Int)).1
def rdA (bs : List UInt8) : Nat := (bytesS bs (sizeS bs 0 0 16384).2.1 (sizeS bs 0 0 16384).2.2 (((rdN bs + 7) / 8 : Nat) : Int)).2.1
def rdE (bs : List UInt8) : Int := (bytesS bs (sizeS bs 0 0 16384).2.1 (sizeS bs 0 0 16384).2.2 (((rdN bs + 7) / 8 : Nat) : Int)).2.2
def rdEnd (bs : List UInt8) : Int := endE bs (rdA bs) (rdE bs)
theorem rdN_le (bs : List UInt8) : rdN bs ≤ 16384 := by
  unfold rdN sizeS
  rw [if_pos rfl]
  cases hs : sizeR (bs.drop 0) 16384 with
  | none => simp
  | some x =>
    obtain ⟨u, k⟩ := x
    unfold sizeR at hs
    cases hd : dec 0 0 (bs.drop 0) with
    | none => rw [hd] at hs; cases hs
    | some y =>
      rw [hd] at hs
      obtain ⟨u', k'⟩ := y
      simp only at hs
      split at hs
      · cases hs
      · injection hs with hs
        injection hs with e1 e2
        subst e1
        simp only
        omega
theorem rdS_len (bs : List UInt8) : rdS bs = [] ∨ (rdS bs).length = (rdN bs + 7) / 8 := by
  unfold rdS bytesS
  split
  · unfold bytesR
    split
    · left
      split at * <;> simp_all
    · rename_i x hx
      right
      split at hx
      · cases hx
      · injection hx with hx
        rw [← hx, Int.toNat_natCast, List.length_take]
        omega
  · left; rfl
theorem rdS_full (bs : List UInt8) (h : rdE bs = 0) : (rdS bs).length = (rdN bs + 7) / 8 := by
  unfold rdE at h
  unfold rdS
  unfold bytesS at h ⊢
  split
  · rename_i h0
    rw [if_pos h0] at h
    split
    · rename_i hx
      rw [hx] at h
      simp at h
    · rename_i x hx
      unfold bytesR at hx
      split at hx
      · cases hx
      · injection hx with hx
        rw [← hx, Int.toNat_natCast, List.length_take]
        omega
  · rename_i h0
    rw [if_neg h0] at h
    exact absurd h h0
theorem rdEnd_e (bs : List UInt8) (h : rdEnd bs = 0) : rdE bs = 0 := by
  unfold rdEnd endE at h
  split at h
  · omega
  · exact h
/-- the set that is read; none. -/
def readsB (bs : List UInt8) : Prop := rdEnd bs = 0 ∧ clean (rdS bs) (rdN bs) (rdS bs).length
def readL (bs : List UInt8) : List Bool := atK (bitB (rdS bs)) (rdN bs) (8 * (rdS bs).length)
end Go.Proofs.YtapfbjaopbcgjaaDoor
