/- Numbers as bytes, in plain Lean: how they are put (enc) and read (dec), and that one undoes the other. -/
import Derived.Test.YthbgcmffpnmbeaaMem
namespace Go.Proofs.Ythbgcmffpnmbeaa
set_option linter.unusedVariables false
set_option linter.unusedSimpArgs false
open Go.RowKit

/-- bytes as cells. -/
def by8 (bs : List UInt8) : List Value := bs.map fun b => .int .u8 b.toNat
theorem by8_length (bs : List UInt8) : (by8 bs).length = bs.length := by simp [by8]
theorem by8_get (bs : List UInt8) (k : Nat) (h : k < bs.length) : (by8 bs)[k]? = some (.int .u8 ((bs.getD k 0).toNat : Nat)) := by
  simp [by8, List.getElem?_map, List.getElem?_eq_getElem h]
theorem by8_one (bs : List UInt8) : ∀ u ∈ by8 bs, u.oneCell' = true := by
  intro u hu
  obtain ⟨_, _, rfl⟩ := List.mem_map.1 hu
  rfl
theorem by8_append (a b : List UInt8) : by8 (a ++ b) = by8 a ++ by8 b := by simp [by8]
theorem by8_take (a : List UInt8) (k : Nat) : by8 (a.take k) = (by8 a).take k := by simp [by8, List.map_take]
theorem by8_drop (a : List UInt8) (k : Nat) : by8 (a.drop k) = (by8 a).drop k := by simp [by8, List.map_drop]
theorem by8_inj {a b : List UInt8} (h : by8 a = by8 b) : a = b := by
  induction a generalizing b with
  | nil => cases b with
    | nil => rfl
    | cons y ys => simp [by8] at h
  | cons x xs ih =>
    cases b with
    | nil => simp [by8] at h
    | cons y ys =>
      simp only [by8, List.map_cons, List.cons.injEq, Value.int.injEq, true_and] at h
      rw [ih (by simpa [by8] using h.2)]
      have h1 : x.toNat = y.toNat := by omega
      rw [UInt8.toNat_inj.1 h1]
theorem Rd.byte {w : World} {B : Nat} {A : Option Addr} {bs : List UInt8} (h : Rd w B A (by8 bs)) {k : Nat} (hk : k < bs.length) :
    ∃ ad, A = some ad ∧ ad.block < B ∧ w.cell? (ad.add k) = some (.int .u8 ((bs.getD k 0).toNat : Nat)) := h k _ (by8_get bs k hk)

/-- the number at the head of bytes, i bytes in, acc gathered. -/
def dec (i acc : Nat) : List UInt8 → Option (Nat × Nat)
  | [] => none
  | b :: r => if 9 < i then none else if i = 9 ∧ 1 < b.toNat % 128 then none else
      if b.toNat < 128 then (if b.toNat = 0 ∧ 0 < i then none else some (acc + b.toNat % 128 * 2 ^ (7 * i), i + 1))
      else dec (i + 1) (acc + b.toNat % 128 * 2 ^ (7 * i)) r
def numV : Option (Nat × Nat) → Value
  | none => .tuple #[.int .u64 0, .int .i64 (-1)]
  | some (u, k) => .tuple #[.int .u64 u, .int .i64 k]

theorem dec_drop {bs : List UInt8} {k v : Nat} (h : k < bs.length) : dec k v (bs.drop k) = dec k v (bs.getD k 0 :: bs.drop (k + 1)) := by
  rw [List.drop_eq_getElem_cons h]
  simp [List.getElem?_eq_getElem h]
theorem dec_end {bs : List UInt8} {k v : Nat} (h : bs.length ≤ k ∨ 10 ≤ k) : dec k v (bs.drop k) = none := by
  rcases h with h | h
  · rw [List.drop_eq_nil_of_le h]; rfl
  · cases bs.drop k with
    | nil => rfl
    | cons b r => rw [dec, if_pos (by omega)]
theorem dec_bad9 {bs : List UInt8} {k v : Nat} (h : k < bs.length) (h9 : k = 9 ∧ 1 < (bs.getD k 0).toNat % 128) : dec k v (bs.drop k) = none := by
  rw [dec_drop h, dec, if_neg (by omega), if_pos h9]
theorem dec_stop {bs : List UInt8} {k v : Nat} (h : k < bs.length) (hk : k < 10) (h9 : ¬ (k = 9 ∧ 1 < (bs.getD k 0).toNat % 128)) (hb : (bs.getD k 0).toNat < 128) (h0 : ¬ ((bs.getD k 0).toNat = 0 ∧ 0 < k)) :
    dec k v (bs.drop k) = some (v + (bs.getD k 0).toNat % 128 * 2 ^ (7 * k), k + 1) := by
  rw [dec_drop h, dec, if_neg (by omega), if_neg h9, if_pos hb, if_neg h0]
theorem dec_bad0 {bs : List UInt8} {k v : Nat} (h : k < bs.length) (hb : (bs.getD k 0).toNat = 0) (h0 : 0 < k) : dec k v (bs.drop k) = none := by
  rw [dec_drop h, dec]
  by_cases hk : 9 < k
  · rw [if_pos hk]
  · rw [if_neg hk]
    by_cases h9 : k = 9 ∧ 1 < (bs.getD k 0).toNat % 128
    · rw [if_pos h9]
    · rw [if_neg h9, if_pos (by omega), if_pos ⟨hb, h0⟩]
theorem dec_more {bs : List UInt8} {k v : Nat} (h : k < bs.length) (hk : k < 10) (h9 : ¬ (k = 9 ∧ 1 < (bs.getD k 0).toNat % 128)) (hb : ¬ (bs.getD k 0).toNat < 128) :
    dec k v (bs.drop k) = dec (k + 1) (v + (bs.getD k 0).toNat % 128 * 2 ^ (7 * k)) (bs.drop (k + 1)) := by
  rw [dec_drop h, dec, if_neg (by omega), if_neg h9, if_neg hb]

theorem pow7 (k : Nat) : 2 ^ (7 * (k + 1)) = 128 * 2 ^ (7 * k) := by
  rw [Nat.mul_add, Nat.pow_add, Nat.mul_comm]
theorem acc_lt {v x k : Nat} (h : v < 2 ^ (7 * k)) (hx : x < 128) : v + x * 2 ^ (7 * k) < 2 ^ (7 * (k + 1)) := by
  rw [pow7]
  have : x * 2 ^ (7 * k) ≤ 127 * 2 ^ (7 * k) := Nat.mul_le_mul_right _ (by omega)
  omega
theorem or_shift {v k : Nat} (h : v < 2 ^ k) (g : Nat) : v ||| g * 2 ^ k = v + g * 2 ^ k := by
  rw [Nat.or_comm, Nat.mul_comm, ← Nat.two_pow_add_eq_or_of_lt h, Nat.add_comm]
theorem and_127 (b : UInt8) : bits .and .u8 (b.toNat : Int) 127 = ((b.toNat % 128 : Nat) : Int) := by
  have h := b.toNat_lt
  generalize b.toNat = x at h
  revert h
  revert x
  decide +kernel
end Go.Proofs.Ythbgcmffpnmbeaa
