/- Numbers as bytes, in plain Lean: reading undoes putting, and there is one form; the zigzag of signed numbers. -/
import Derived.Test.YthbgcmffpnmbeaaCodecPlain
import Derived.Laws.BitsAllLaws
namespace Go.Proofs.Ythbgcmffpnmbeaa
set_option linter.unusedVariables false
set_option linter.unusedSimpArgs false
open Go.RowKit

theorem dec_lt : ∀ (bs : List UInt8) (i acc u k : Nat), acc < 2 ^ (7 * i) → dec i acc bs = some (u, k) → u < 18446744073709551616
  | [], i, acc, u, k, ha, h => by simp [dec] at h
  | b :: r, i, acc, u, k, ha, h => by
    rw [dec] at h
    split at h
    · cases h
    · rename_i hi
      split at h
      · cases h
      · rename_i h9
        have hx : b.toNat % 128 < 128 := Nat.mod_lt _ (by omega)
        have hal := acc_lt ha hx
        split at h
        · split at h
          · cases h
          · injection h with h; injection h with h1 h2
            subst h1
            by_cases hk : i = 9
            · subst hk
              have e : (2 : Nat) ^ (7 * 9) = 9223372036854775808 := by decide
              rw [e] at ha ⊢
              have : ¬ 1 < b.toNat % 128 := fun h => h9 ⟨rfl, h⟩
              omega
            · have h2 : 2 ^ (7 * (i + 1)) ≤ 2 ^ 63 := Nat.pow_le_pow_right (by omega) (by omega)
              omega
        · exact dec_lt r _ _ u k hal h

/-- how a number is put: with so many rounds at most. -/
def encF : Nat → Nat → List UInt8
  | 0, u => [UInt8.ofNat u]
  | f + 1, u => if 127 < u then UInt8.ofNat (u % 128 + 128) :: encF f (u / 128) else [UInt8.ofNat u]
def enc (u : Nat) : List UInt8 := encF 9 u

theorem ofNat_toNat {x : Nat} (h : x < 256) : (UInt8.ofNat x).toNat = x := by
  rw [UInt8.toNat_ofNat']
  exact Nat.mod_eq_of_lt (by omega)

theorem encF_len : ∀ (f u : Nat), 1 ≤ (encF f u).length ∧ (encF f u).length ≤ f + 1
  | 0, u => by simp [encF]
  | f + 1, u => by
    rw [encF]
    split
    · have := encF_len f (u / 128); simp; omega
    · simp

/-- reading undoes putting, whatever stands behind. -/
theorem dec_encF : ∀ (f u i acc : Nat) (rest : List UInt8), f + i = 9 → u * 2 ^ (7 * i) < 18446744073709551616 → (0 < i → 0 < u) → dec i acc (encF f u ++ rest) = some (acc + u * 2 ^ (7 * i), i + (encF f u).length)
  | 0, u, i, acc, rest, hf, hu, h0 => by
    have hi : i = 9 := by omega
    subst hi
    have e : (2 : Nat) ^ (7 * 9) = 9223372036854775808 := by decide
    rw [e] at hu
    have hu1 : u ≤ 1 := by omega
    simp only [encF, List.cons_append, List.nil_append, List.length_cons, List.length_nil]
    rw [dec, ofNat_toNat (by omega), if_neg (by omega), if_neg (by omega), if_pos (by omega), if_neg (by omega)]
    rw [Nat.mod_eq_of_lt (by omega)]
  | f + 1, u, i, acc, rest, hf, hu, h0 => by
    rw [encF]
    split
    · rename_i hbig
      have hx : u % 128 < 128 := Nat.mod_lt _ (by omega)
      have ih := dec_encF f (u / 128) (i + 1) (acc + u % 128 * 2 ^ (7 * i)) rest (by omega) (by
        rw [pow7]
        have h1 : u / 128 * (128 * 2 ^ (7 * i)) = (u / 128 * 128) * 2 ^ (7 * i) := by rw [Nat.mul_assoc]
        rw [h1]
        have : u / 128 * 128 ≤ u := by omega
        exact Nat.lt_of_le_of_lt (Nat.mul_le_mul_right _ this) hu) (by omega)
      rw [List.cons_append, dec, ofNat_toNat (by omega), if_neg (by omega), if_neg (by omega), if_neg (by omega)]
      have e1 : (u % 128 + 128) % 128 = u % 128 := by omega
      rw [e1, ih, pow7]
      have e2 : acc + u % 128 * 2 ^ (7 * i) + u / 128 * (128 * 2 ^ (7 * i)) = acc + u * 2 ^ (7 * i) := by
        rw [← Nat.mul_assoc, Nat.add_assoc, ← Nat.add_mul]
        congr 2
        omega
      rw [e2]
      simp
      omega
    · rename_i hs
      rw [List.cons_append, dec, ofNat_toNat (by omega), if_neg (by omega), if_neg (by omega), if_pos (by omega), if_neg (by omega), Nat.mod_eq_of_lt (by omega)]
      simp
theorem dec_enc (u : Nat) (hu : u < 18446744073709551616) (rest : List UInt8) : dec 0 0 (enc u ++ rest) = some (u, (enc u).length) := by
  have h := dec_encF 9 u 0 0 rest (by omega) (by simpa using hu) (by omega)
  simpa [enc] using h

/-- what is read as a number is what would be put. -/
theorem encF_dec : ∀ (bs : List UInt8) (f i acc u k : Nat), f + i = 9 → acc < 2 ^ (7 * i) → dec i acc bs = some (u, k) →
    ∃ y, u = acc + y * 2 ^ (7 * i) ∧ (0 < i → 0 < y) ∧ encF f y = bs.take (k - i)
  | [], f, i, acc, u, k, hf, ha, h => by simp [dec] at h
  | b :: r, f, i, acc, u, k, hf, ha, h => by
    have hb := b.toNat_lt
    rw [dec] at h
    split at h
    · cases h
    · rename_i hi
      split at h
      · cases h
      · rename_i h9
        have hx : b.toNat % 128 < 128 := Nat.mod_lt _ (by omega)
        split at h
        · rename_i hs
          split at h
          · cases h
          · rename_i h0
            injection h with h; injection h with h1 h2
            subst h1; subst h2
            refine ⟨b.toNat % 128, rfl, fun h => by omega, ?_⟩
            have e : b.toNat % 128 = b.toNat := Nat.mod_eq_of_lt hs
            have e3 : i + 1 - i = 1 := by omega
            rw [e, e3]
            cases f with
            | zero => simp [encF]
            | succ f => rw [encF, if_neg (by omega)]; simp
        · rename_i hs
          cases f with
          | zero =>
            -- i = 9: the next one is beyond
            have hi9 : i = 9 := by omega
            subst hi9
            cases r with
            | nil => simp [dec] at h
            | cons b' r' => rw [dec, if_pos (by omega)] at h; cases h
          | succ f =>
            obtain ⟨y, hy, hpos, he⟩ := encF_dec r f (i + 1) _ u k (by omega) (acc_lt ha hx) h
            have hk := hpos (by omega)
            refine ⟨b.toNat % 128 + y * 128, ?_, fun _ => by omega, ?_⟩
            · rw [hy, pow7, Nat.add_mul, Nat.add_assoc, Nat.mul_assoc]
            · have hkk : ∃ j, k - i = j + 1 ∧ k - (i + 1) = j := by
                rcases Nat.lt_or_ge i k with h1 | h1
                · exact ⟨k - (i + 1), by omega, rfl⟩
                · exfalso
                  have e0 : k - (i + 1) = 0 := by omega
                  rw [e0] at he
                  have := (encF_len f y).1
                  rw [he] at this
                  simp at this
              obtain ⟨j, hj1, hj2⟩ := hkk
              rw [hj2] at he
              rw [hj1, List.take_succ_cons, encF, if_pos (by omega)]
              have e1 : (b.toNat % 128 + y * 128) % 128 + 128 = b.toNat := by omega
              have e2 : (b.toNat % 128 + y * 128) / 128 = y := by omega
              rw [e1, e2, he]
              simp
theorem enc_dec {bs : List UInt8} {u k : Nat} (h : dec 0 0 bs = some (u, k)) : enc u = bs.take k := by
  obtain ⟨y, hy, _, he⟩ := encF_dec bs 9 0 0 u k (by omega) (by decide) h
  have : u = y := by simpa using hy
  subst this
  simpa [enc] using he

/-- signed numbers, turned. -/
def zz (n : Int) : Nat := if 0 ≤ n then (2 * n).toNat else (-2 * n - 1).toNat
def unzz (u : Nat) : Int := if u % 2 = 0 then ((u / 2 : Nat) : Int) else -((u / 2 : Nat) : Int) - 1
theorem unzz_zz (n : Int) : unzz (zz n) = n := by
  unfold unzz zz
  split <;> split <;> omega
theorem zz_unzz (u : Nat) : zz (unzz u) = u := by
  unfold unzz zz
  split <;> split <;> omega
theorem zz_lt {n : Int} (h1 : -9223372036854775808 ≤ n) (h2 : n ≤ 9223372036854775807) : zz n < 18446744073709551616 := by
  unfold zz; split <;> omega
theorem unzz_bd {u : Nat} (h : u < 18446744073709551616) : -9223372036854775808 ≤ unzz u ∧ unzz u ≤ 9223372036854775807 := by
  unfold unzz; split <;> omega
theorem xor_zz {u : Nat} (h : u < 18446744073709551616) : bits .xor .i64 (wrap64 ((u : Int) / 2)) (wrap64 (-wrap64 (bits .and .u64 (u : Int) 1))) = unzz u := by
  have e1 : bits .and .u64 (u : Int) 1 = ((u % 2 : Nat) : Int) := by
    have := u64_and_nat u 1 h (by omega)
    simpa [Nat.and_one_is_mod] using this
  have e2 : wrap64 ((u : Int) / 2) = ((u / 2 : Nat) : Int) := by rw [IntWalk.wrap64_in _ (by omega)]; omega
  rw [e1, e2]
  have hx : u / 2 < 2 ^ 63 := by omega
  have hb : (BitVec.ofInt 64 ((u / 2 : Nat) : Int)).toNat = u / 2 := by
    rw [BitVec.ofInt_natCast, BitVec.toNat_ofNat]; exact Nat.mod_eq_of_lt (by omega)
  unfold unzz
  rcases Nat.mod_two_eq_zero_or_one u with h0 | h0
  · rw [h0, if_pos rfl]
    have e3 : wrap64 (-wrap64 ((0 : Nat) : Int)) = 0 := by unfold wrap64; omega
    rw [e3]
    show IntKind.i64.wrap ((BitVec.ofInt 64 ((u / 2 : Nat) : Int) ^^^ BitVec.ofInt 64 0).toNat : Int) = _
    have e4 : BitVec.ofInt 64 0 = 0#64 := by decide
    rw [e4, BitVec.xor_zero, hb, IntWalk.i64_in _ (by omega)]
  · rw [h0, if_neg (by omega)]
    have e3 : wrap64 (-wrap64 ((1 : Nat) : Int)) = -1 := by unfold wrap64; omega
    rw [e3]
    show IntKind.i64.wrap ((BitVec.ofInt 64 ((u / 2 : Nat) : Int) ^^^ BitVec.ofInt 64 (-1)).toNat : Int) = _
    have e4 : BitVec.ofInt 64 (-1) = BitVec.allOnes 64 := by decide
    rw [e4, BitVec.xor_allOnes, BitVec.toNat_not, hb, IntKind.wrap_i64]
    omega
theorem or_128 (y : Nat) : bits .or .u8 ((y : Int) % 256) 128 = (((UInt8.ofNat (y % 128 + 128)).toNat : Nat) : Int) := by
  have e : (y : Int) % 256 = ((y % 256 : Nat) : Int) := by omega
  rw [e, ofNat_toNat (by omega)]
  have h : y % 128 = (y % 256) % 128 := by omega
  have hlt : y % 256 < 256 := Nat.mod_lt _ (by omega)
  rw [h]
  generalize y % 256 = x at hlt
  revert hlt
  revert x
  decide +kernel
theorem wrap_u8 (y : Nat) (h : y ≤ 127) : IntKind.u8.wrap (y : Int) = (((UInt8.ofNat y).toNat : Nat) : Int) := by
  rw [IntWalk.u8_in _ (by omega), ofNat_toNat (by omega)]
theorem zz_bits {n : Int} (h1 : -9223372036854775808 ≤ n) (h2 : n ≤ 9223372036854775807) : bits .xor .u64 (IntKind.u64.wrap (wrap64 (n * 2))) (IntKind.u64.wrap (n / 9223372036854775808)) = (zz n : Int) := by
  unfold zz
  split
  · rename_i h0
    have e1 : IntKind.u64.wrap (wrap64 (n * 2)) = ((2 * n.toNat : Nat) : Int) := by rw [IntKind.wrap_u64]; unfold wrap64; omega
    have e2 : IntKind.u64.wrap (n / 9223372036854775808) = ((0 : Nat) : Int) := by
      have : n / 9223372036854775808 = 0 := by omega
      rw [this]; decide
    rw [e1, e2, u64_xor_nat _ _ (by omega) (by omega), Nat.xor_zero]
    omega
  · rename_i h0
    have e1 : IntKind.u64.wrap (wrap64 (n * 2)) = ((18446744073709551616 - 2 * (-n).toNat : Nat) : Int) := by rw [IntKind.wrap_u64]; unfold wrap64; omega
    have e2 : IntKind.u64.wrap (n / 9223372036854775808) = ((18446744073709551615 : Nat) : Int) := by
      have : n / 9223372036854775808 = -1 := by omega
      rw [this]; decide
    rw [e1, e2]
    have e3 := ofInt_u64 (18446744073709551616 - 2 * (-n).toNat) (by omega)
    show IntKind.u64.wrap ((BitVec.ofInt 64 ((18446744073709551616 - 2 * (-n).toNat : Nat) : Int) ^^^ BitVec.ofInt 64 ((18446744073709551615 : Nat) : Int)).toNat : Int) = _
    have e4 : BitVec.ofInt 64 ((18446744073709551615 : Nat) : Int) = BitVec.allOnes 64 := by decide
    rw [e4, BitVec.xor_allOnes, BitVec.toNat_not, e3, IntKind.wrap_u64]
    omega
end Go.Proofs.Ythbgcmffpnmbeaa
