/- A burst of bits in bytes, in plain Lean. -/
import Derived.Test.YtapfbjaopbcgjaaFrameLaw
namespace Go.Proofs.Ytapfbjaopbcgjaa
set_option linter.unusedVariables false
set_option linter.unusedSimpArgs false
open Go.RowKit

theorem xor_mul (a b k : Nat) : (a ^^^ b) * 2 ^ k = a * 2 ^ k ^^^ b * 2 ^ k := by
  apply Nat.eq_of_testBit_eq
  intro i
  simp only [Nat.testBit_xor, Nat.testBit_mul_two_pow]
  by_cases h : k ≤ i <;> simp [h]
theorem leVal_xor : ∀ (l : List UInt8) (i : Nat) (v : UInt8), i < l.length → leVal (l.set i (l.getD i 0 ^^^ v)) = leVal l ^^^ v.toNat * 2 ^ (8 * i)
  | [], i, v, h => by simp at h
  | b :: r, 0, v, _ => by
    simp only [List.set_cons_zero, List.getD_cons_zero, leVal, Nat.mul_zero, Nat.pow_zero, Nat.mul_one]
    rw [add_xor (b ^^^ v).toNat_lt, add_xor b.toNat_lt, UInt8.toNat_xor, Nat.xor_assoc, Nat.xor_assoc, Nat.xor_comm v.toNat]
  | b :: r, i + 1, v, h => by
    have ih := leVal_xor r i v (by simpa using h)
    simp only [List.set_cons_succ, List.getD_cons_succ, leVal]
    rw [ih, add_xor b.toNat_lt, add_xor b.toNat_lt, Nat.xor_assoc]
    congr 1
    rw [show (256 : Nat) = 2 ^ 8 from rfl, Nat.mul_comm, xor_mul, Nat.mul_comm (leVal r), Nat.mul_assoc, ← Nat.pow_add, show 8 * (i + 1) = 8 * i + 8 by omega]
theorem mod_bit (x k : Nat) : x % 2 ^ (k + 1) = x % 2 ^ k ^^^ (x / 2 ^ k % 2) * 2 ^ k := by
  apply Nat.eq_of_testBit_eq
  intro i
  rw [Nat.testBit_xor, Nat.testBit_mod_two_pow, Nat.testBit_mod_two_pow, Nat.testBit_mul_two_pow]
  by_cases h1 : i < k
  · simp [h1, show i < k + 1 by omega, show ¬ k ≤ i by omega]
  · by_cases h2 : i = k
    · subst h2
      simp [Nat.testBit_eq_decide_div_mod_eq]
    · simp [h1, show ¬ i < k + 1 by omega, show k ≤ i by omega]
      have h3 : (x / 2 ^ k % 2).testBit (i - k) = false := Nat.testBit_lt_two_pow (Nat.lt_of_lt_of_le (Nat.mod_lt _ (by omega)) (Nat.le_trans (by omega : 2 ≤ 2 ^ 1) (Nat.pow_le_pow_right (by omega) (by omega))))
      rw [h3]
/-- one bit of the burst is laid. -/
theorem burst_step {b cl : List UInt8} {w from_ k : Nat} (h : leVal cl = leVal b ^^^ (w % 2 ^ k) * 2 ^ from_) (h1 : w / 2 ^ k % 2 = 1) (hlt : from_ + k < 8 * cl.length) :
    leVal (cl.set ((from_ + k) / 8) (cl.getD ((from_ + k) / 8) 0 ^^^ UInt8.ofNat (2 ^ ((from_ + k) % 8)))) = leVal b ^^^ (w % 2 ^ (k + 1)) * 2 ^ from_ := by
  have hp : 2 ^ ((from_ + k) % 8) < 256 := by
    have : 2 ^ ((from_ + k) % 8) ≤ 2 ^ 7 := Nat.pow_le_pow_right (by omega) (by omega)
    omega
  rw [leVal_xor cl _ _ (by omega), ofNat_toNat hp, h, mod_bit, h1, Nat.one_mul, xor_mul, Nat.xor_assoc, ← Nat.pow_add, ← Nat.pow_add]
  congr 3
  omega
theorem burst_skip {b cl : List UInt8} {w from_ k : Nat} (h : leVal cl = leVal b ^^^ (w % 2 ^ k) * 2 ^ from_) (h1 : w / 2 ^ k % 2 = 0) : leVal cl = leVal b ^^^ (w % 2 ^ (k + 1)) * 2 ^ from_ := by
  rw [h, mod_bit, h1, Nat.zero_mul, Nat.xor_zero]
theorem mod_one {w k : Nat} (h1 : w / 2 ^ k % 2 = 1) : w % 2 ^ (k + 1) ≠ 0 := by
  intro h
  have h2 : (w % 2 ^ (k + 1)).testBit k = false := by rw [h]; simp
  rw [Nat.testBit_mod_two_pow] at h2
  simp [Nat.testBit_eq_decide_div_mod_eq, h1] at h2
theorem mod_zero {w k : Nat} (h1 : w / 2 ^ k % 2 = 0) : w % 2 ^ (k + 1) = w % 2 ^ k := by
  rw [mod_bit, h1, Nat.zero_mul, Nat.xor_zero]
theorem openE_no {kind : UInt8} {d : List UInt8} (h1 : ¬ 16777216 < d.length) (h : ¬ (kindOK d = true ∧ d.getD 3 0 = kind ∧ 8 ≤ d.length ∧ crcOK d = true)) : openE kind d = 20 := by
  unfold openE
  rw [if_neg h1, if_neg (by unfold goodB; simpa using h)]
/-- the altered file is no sealed file, of whatever kind. -/
theorem burst_open {kind kd : UInt8} {bss : List (List UInt8)} {cl : List UInt8} {w from_ : Nat} (hl : longB kind bss = false) (hlen : cl.length = (sealB kind bss).length) (hw : 0 < w) (hw2 : w < 4294967296) (hfr : from_ ≤ 8 * (sealB kind bss).length)
    (hc : leVal cl = leVal (sealB kind bss) ^^^ w * 2 ^ from_) : openE kd cl = 20 := by
  have h2 := long_no hl
  have h3 := seal_len kind bss
  refine openE_no (by omega) (fun h => ?_)
  have hok := of_decide_eq_true h.2.2.2
  refine burst_bad (f := sealB kind bss) (w := w) (from_ := from_) hlen (by omega) ?_ hw hw2 hfr hc hok
  rw [seal_drop, seal_take]
end Go.Proofs.Ytapfbjaopbcgjaa
