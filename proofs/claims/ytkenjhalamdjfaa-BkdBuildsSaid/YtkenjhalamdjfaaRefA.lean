/- The document's own numbers as bytes, in plain Lean: they are the program's (enc, dec). -/
import Derived.Test.YtkenjhalamdjfaaCodecLaw
namespace Go.Proofs.Ytkenjhalamdjfaa
set_option linter.unusedVariables false
set_option linter.unusedSimpArgs false
open Go.RowKit

theorem encF_at : ∀ (f u i : Nat) (h : i < (encF f u).length), u < 2 ^ (7 * (f + 1)) → ((encF f u)[i]).toNat = u / 2 ^ (7 * i) % 128 + (if i + 1 < (encF f u).length then 128 else 0)
  | 0, u, i, h, hu => by
    have hi : i = 0 := by simp [encF] at h; exact h
    subst hi
    have hu' : u < 128 := by simpa using hu
    have e : (if 0 + 1 < (encF 0 u).length then 128 else 0) = 0 := if_neg (by simp [encF])
    rw [e]
    simp only [encF, List.getElem_cons_zero]
    rw [ofNat_toNat (by omega)]
    simp; omega
  | f + 1, u, i, h, hu => by
    by_cases hb : 127 < u
    · have e0 : encF (f + 1) u = UInt8.ofNat (u % 128 + 128) :: encF f (u / 128) := by rw [encF, if_pos hb]
      have hl := (encF_len f (u / 128)).1
      cases i with
      | zero =>
        simp only [e0, List.getElem_cons_zero, List.length_cons]
        rw [ofNat_toNat (by omega), if_pos (by omega)]
        simp
      | succ j =>
        have hj : j < (encF f (u / 128)).length := by rw [e0] at h; simpa using h
        have hu' : u / 128 < 2 ^ (7 * (f + 1)) := by rw [pow7] at hu; omega
        have ih := encF_at f (u / 128) j hj hu'
        simp only [e0, List.getElem_cons_succ, List.length_cons]
        rw [ih, Nat.div_div_eq_div_mul, pow7]
        congr 1
        by_cases hc : j + 1 < (encF f (u / 128)).length
        · rw [if_pos hc, if_pos (by omega)]
        · rw [if_neg hc, if_neg (by omega)]
    · have e0 : encF (f + 1) u = [UInt8.ofNat u] := by rw [encF, if_neg hb]
      have hi : i = 0 := by rw [e0] at h; simpa using h
      subst hi
      simp only [e0, List.getElem_cons_zero, List.length_cons, List.length_nil]
      rw [ofNat_toNat (by omega), if_neg (by omega)]
      simp; omega

theorem encF_more : ∀ (f u i : Nat), 1 ≤ i → i ≤ (encF f u).length → (i < (encF f u).length ↔ (i < f + 1 ∧ 0 < u / 2 ^ (7 * i)))
  | 0, u, i, h1, h2 => by
    have e : (encF 0 u).length = 1 := by simp [encF]
    rw [e] at h2 ⊢
    omega
  | f + 1, u, i, h1, h2 => by
    obtain ⟨j, rfl⟩ : ∃ j, i = j + 1 := ⟨i - 1, by omega⟩
    by_cases hb : 127 < u
    · have e0 : encF (f + 1) u = UInt8.ofNat (u % 128 + 128) :: encF f (u / 128) := by rw [encF, if_pos hb]
      have hl := (encF_len f (u / 128)).1
      rw [e0, List.length_cons] at h2 ⊢
      cases j with
      | zero =>
        have : 0 < u / 2 ^ (7 * (0 + 1)) := by simp; omega
        constructor
        · intro _; exact ⟨by omega, this⟩
        · intro _; omega
      | succ j =>
        have ih := encF_more f (u / 128) (j + 1) (by omega) (by omega)
        rw [Nat.div_div_eq_div_mul, ← pow7] at ih
        constructor
        · intro h; have := ih.1 (by omega); exact ⟨by omega, this.2⟩
        · intro h; have := ih.2 ⟨by omega, h.2⟩; omega
    · have e0 : encF (f + 1) u = [UInt8.ofNat u] := by rw [encF, if_neg hb]
      rw [e0, List.length_cons, List.length_nil] at h2 ⊢
      have : j = 0 := by omega
      subst this
      have : u / 2 ^ (7 * (0 + 1)) = 0 := by simp; omega
      rw [this]
      omega

theorem u64_pow {u : Nat} (h : u < 18446744073709551616) : u < 2 ^ (7 * (9 + 1)) := by
  have e : (2 : Nat) ^ (7 * (9 + 1)) = 1180591620717411303424 := by decide
  rw [e]; omega
theorem enc_at {u i : Nat} (hu : u < 18446744073709551616) (h : i < (enc u).length) : ((enc u).getD i 0).toNat = u / 2 ^ (7 * i) % 128 + (if i + 1 < (enc u).length then 128 else 0) := by
  have := encF_at 9 u i h (u64_pow hu)
  simp only [List.getD_eq_getElem?_getD, List.getElem?_eq_getElem h, Option.getD_some]
  exact this
theorem enc_more {u i : Nat} (h1 : 1 ≤ i) (h2 : i ≤ (enc u).length) : (i < (enc u).length ↔ (i < 10 ∧ 0 < u / 2 ^ (7 * i))) := encF_more 9 u i h1 h2
theorem enc_len (u : Nat) : 1 ≤ (enc u).length ∧ (enc u).length ≤ 10 := encF_len 9 u

/-- how many bytes above 127 stand ahead. -/
def lead : List UInt8 → Nat
  | [] => 0
  | b :: r => if 127 < b.toNat then lead r + 1 else 0
/-- the value of groups. -/
def gval : List UInt8 → Nat
  | [] => 0
  | b :: r => b.toNat % 128 + 128 * gval r

theorem lead_encF : ∀ (f u : Nat) (rest : List UInt8), u < 2 ^ (7 * (f + 1)) → lead (encF f u ++ rest) + 1 = (encF f u).length
  | 0, u, rest, hu => by
    have hu' : u < 128 := by simpa using hu
    simp only [encF, List.cons_append, List.nil_append, lead]
    rw [ofNat_toNat (by omega), if_neg (by omega)]
    rfl
  | f + 1, u, rest, hu => by
    by_cases hb : 127 < u
    · rw [encF, if_pos hb, List.cons_append, lead, ofNat_toNat (by omega), if_pos (by omega), List.length_cons, lead_encF f (u / 128) rest (by rw [pow7] at hu; omega)]
    · rw [encF, if_neg hb, List.cons_append, lead, ofNat_toNat (by omega), if_neg (by omega)]
      rfl
theorem gval_encF : ∀ (f u : Nat), u < 2 ^ (7 * (f + 1)) → gval (encF f u) = u
  | 0, u, hu => by
    have hu' : u < 128 := by simpa using hu
    simp only [encF, gval]
    rw [ofNat_toNat (by omega)]
    omega
  | f + 1, u, hu => by
    by_cases hb : 127 < u
    · rw [encF, if_pos hb, gval, ofNat_toNat (by omega), gval_encF f (u / 128) (by rw [pow7] at hu; omega)]
      omega
    · rw [encF, if_neg hb, gval, ofNat_toNat (by omega)]
      simp only [gval]
      omega

theorem dec_parts {bs : List UInt8} {u k : Nat} (h : dec 0 0 bs = some (u, k)) : lead bs + 1 = k ∧ gval (bs.take k) = u ∧ u < 18446744073709551616 ∧ k ≤ 10 ∧ k ≤ bs.length ∧ enc u = bs.take k := by
  have hu := dec_lt _ 0 0 u k (by decide) h
  have he := enc_dec h
  have hl := enc_len u
  have hb : bs = enc u ++ bs.drop k := by rw [he, List.take_append_drop]
  have hk : (enc u).length = k ∧ k ≤ bs.length := by
    have h2 := dec_enc u hu (bs.drop k)
    rw [← hb, h] at h2
    injection h2 with h2
    injection h2 with _ h2
    refine ⟨h2.symm, ?_⟩
    have : (bs.take k).length = k := by rw [← he]; exact h2.symm
    rw [List.length_take] at this
    omega
  refine ⟨?_, ?_, hu, by omega, hk.2, he⟩
  · have := lead_encF 9 u (bs.drop k) (u64_pow hu)
    rw [hb]
    rw [← hk.1]
    rw [hk.1]
    exact this.trans hk.1
  · rw [← he]; exact gval_encF 9 u (u64_pow hu)

theorem ref_none1 {bs : List UInt8} (h : bs.length ≤ lead bs ∨ 9 < lead bs) : dec 0 0 bs = none := by
  cases hd : dec 0 0 bs with
  | none => rfl
  | some x =>
    obtain ⟨h1, _, _, h4, h5, _⟩ := dec_parts (u := x.1) (k := x.2) hd
    omega
theorem ref_none2 {bs : List UInt8} (h : enc (gval (bs.take (lead bs + 1)) % 18446744073709551616) ≠ bs.take (lead bs + 1)) : dec 0 0 bs = none := by
  cases hd : dec 0 0 bs with
  | none => rfl
  | some x =>
    obtain ⟨h1, h2, h3, h4, h5, h6⟩ := dec_parts (u := x.1) (k := x.2) hd
    rw [h1, h2, Nat.mod_eq_of_lt h3] at h
    exact absurd h6 h
theorem ref_some {bs : List UInt8} {u k : Nat} (hu : u < 18446744073709551616) (hk : k ≤ bs.length) (h : enc u = bs.take k) : dec 0 0 bs = some (u, k) := by
  have h2 := dec_enc u hu (bs.drop k)
  rw [h, List.take_append_drop] at h2
  rw [h2]
  congr 2
  rw [List.length_take]; omega

theorem lead_step {bs : List UInt8} {k : Nat} (h : k < bs.length) (hb : 127 < (bs.getD k 0).toNat) (hk : lead bs = k + lead (bs.drop k)) : lead bs = (k + 1) + lead (bs.drop (k + 1)) := by
  rw [hk, List.drop_eq_getElem_cons h, lead]
  have e : bs.getD k 0 = bs[k] := by simp [List.getElem?_eq_getElem h]
  rw [e] at hb
  rw [if_pos hb]
  omega
theorem lead_stop {bs : List UInt8} {k : Nat} (h : bs.length ≤ k ∨ ¬ 127 < (bs.getD k 0).toNat) (hk : lead bs = k + lead (bs.drop k)) : lead bs = k := by
  by_cases hl : bs.length ≤ k
  · rw [hk, List.drop_eq_nil_of_le hl]; rfl
  · have hl' : k < bs.length := by omega
    have e : bs.getD k 0 = bs[k] := by simp [List.getElem?_eq_getElem hl']
    have hb : ¬ 127 < bs[k].toNat := by rw [e] at h; omega
    rw [hk, List.drop_eq_getElem_cons hl', lead, if_neg hb]
    rfl

/-- the groups of bytes j .. k, the last one first. -/
def gv (bs : List UInt8) (k j : Nat) : Nat := gval ((bs.take k).drop j) % 18446744073709551616
theorem gv_end (bs : List UInt8) (k : Nat) : gv bs k k = 0 := by
  unfold gv
  rw [List.drop_eq_nil_of_le (by simp; omega)]
  rfl
theorem gv_step {bs : List UInt8} {k j : Nat} (hj : j < k) (hk : k ≤ bs.length) :
    bits .or .u64 (IntKind.u64.wrap ((gv bs k (j + 1) : Int) * 128)) (((bs.getD j 0).toNat % 128 : Nat) : Int) = (gv bs k j : Int) := by
  have hj' : j < bs.length := by omega
  have e : bs.getD j 0 = bs[j] := by simp [List.getElem?_eq_getElem hj']
  have hd : (bs.take k).drop j = bs[j] :: (bs.take k).drop (j + 1) := by
    rw [List.drop_eq_getElem_cons (by simp; omega)]
    simp
  rw [e]
  unfold gv
  rw [hd, gval]
  generalize gval ((bs.take k).drop (j + 1)) = y
  have hx : bs[j].toNat % 128 < 128 := Nat.mod_lt _ (by omega)
  generalize bs[j].toNat % 128 = x at hx
  have e1 : IntKind.u64.wrap (((y % 18446744073709551616 : Nat) : Int) * 128) = ((y * 128 % 18446744073709551616 : Nat) : Int) := by rw [IntKind.wrap_u64]; omega
  rw [e1, u64_or_nat _ _ (by omega) (by omega)]
  have e2 : y * 128 % 18446744073709551616 = y % 144115188075855872 * 2 ^ 7 := by omega
  rw [e2, Nat.or_comm, or_shift (k := 7) (by omega)]
  omega
end Go.Proofs.Ytkenjhalamdjfaa
