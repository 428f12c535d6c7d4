/- Numbers packed at a width, and rows of them in blocks, in plain Lean. -/
import Derived.Test.YtpnhnnhocekchaaWordsP
import Derived.Test.YtpnhnnhocekchaaInts
import Derived.Lib.BitFns
namespace Go.Proofs.Ytpnhnnhocekchaa
set_option linter.unusedVariables false
set_option linter.unusedSimpArgs false
open Go.RowKit

theorem p2 {a b : Nat} (h : a ≤ b) : 2 ^ a ≤ 2 ^ b := Nat.pow_le_pow_right (by omega) h
/-! The width. -/
theorem bla_lt : ∀ (f x : Nat), x < 2 ^ f → x < 2 ^ Lib.bitLenAux f x
  | 0, x, h => by simpa [Lib.bitLenAux] using h
  | f + 1, x, h => by
    rw [Lib.bitLenAux]
    by_cases h0 : x = 0
    · rw [if_pos h0, h0]; decide
    · rw [if_neg h0, Nat.add_comm, Nat.pow_succ]
      have := bla_lt f (x / 2) (by rw [Nat.pow_succ] at h; omega)
      omega
theorem blen_le {x : Nat} (w : Nat) (hx : x < 18446744073709551616) : Lib.bitLen x ≤ w ↔ x < 2 ^ w := by
  constructor
  · intro h
    exact Nat.lt_of_lt_of_le (bla_lt 64 x hx) (Nat.pow_le_pow_right (by omega) h)
  · intro h
    exact Lib.bitLenAux_le 64 x w h
theorem blen_64 {x : Nat} (hx : x < 18446744073709551616) : Lib.bitLen x ≤ 64 := (blen_le 64 hx).2 hx
/-- numbers of 64 bits. -/
def In64 (l : List Nat) : Prop := ∀ u ∈ l, u < 18446744073709551616
def wid (l : List Nat) : Nat := l.foldl (fun w u => max w (Lib.bitLen u)) 0
theorem widF (l : List Nat) (a w : Nat) : l.foldl (fun w u => max w (Lib.bitLen u)) a ≤ w ↔ a ≤ w ∧ ∀ u ∈ l, Lib.bitLen u ≤ w := by
  induction l generalizing a with
  | nil => simp
  | cons x r ih =>
    rw [List.foldl_cons, ih]
    simp only [List.mem_cons, forall_eq_or_imp]
    constructor
    · exact fun ⟨h1, h2⟩ => ⟨by omega, by omega, h2⟩
    · exact fun ⟨h1, h2, h3⟩ => ⟨by omega, h3⟩
theorem wid_le {l : List Nat} (h : In64 l) (w : Nat) : wid l ≤ w ↔ ∀ u ∈ l, u < 2 ^ w := by
  unfold wid
  rw [widF]
  constructor
  · exact fun ⟨_, h1⟩ u hu => (blen_le w (h u hu)).1 (h1 u hu)
  · exact fun h1 => ⟨Nat.zero_le _, fun u hu => (blen_le w (h u hu)).2 (h1 u hu)⟩
theorem wid_64 {l : List Nat} (h : In64 l) : wid l ≤ 64 := (wid_le h 64).2 h
theorem wid_lt {l : List Nat} (h : In64 l) : ∀ u ∈ l, u < 2 ^ wid l := (wid_le h _).1 (Nat.le_refl _)
theorem wid_snoc (l : List Nat) (u : Nat) : wid (l ++ [u]) = max (wid l) (Lib.bitLen u) := by simp [wid, List.foldl_append]
def orL (l : List Nat) : Nat := l.foldl (· ||| ·) 0
theorem orL_snoc (l : List Nat) (u : Nat) : orL (l ++ [u]) = orL l ||| u := by simp [orL, List.foldl_append]
theorem orF (l : List Nat) (a w : Nat) : l.foldl (· ||| ·) a < 2 ^ w ↔ a < 2 ^ w ∧ ∀ u ∈ l, u < 2 ^ w := by
  induction l generalizing a with
  | nil => simp
  | cons x r ih =>
    rw [List.foldl_cons, ih]
    simp only [List.mem_cons, forall_eq_or_imp]
    constructor
    · exact fun ⟨h1, h2⟩ => ⟨Nat.lt_of_le_of_lt Nat.left_le_or h1, Nat.lt_of_le_of_lt Nat.right_le_or h1, h2⟩
    · exact fun ⟨h1, h2, h3⟩ => ⟨Nat.or_lt_two_pow h1 h2, h3⟩
theorem orL_lt (l : List Nat) (w : Nat) : orL l < 2 ^ w ↔ ∀ u ∈ l, u < 2 ^ w := by
  unfold orL
  rw [orF]
  exact ⟨fun h => h.2, fun h => ⟨Nat.two_pow_pos w, h⟩⟩
theorem orL_64 {l : List Nat} (h : In64 l) : orL l < 18446744073709551616 := (orL_lt l 64).2 h
theorem orL_wid {l : List Nat} (h : In64 l) : Lib.bitLen (orL l) = wid l := by
  have h1 : ∀ w, Lib.bitLen (orL l) ≤ w ↔ wid l ≤ w := fun w => by rw [blen_le w (orL_64 h), orL_lt, wid_le h]
  exact Nat.le_antisymm ((h1 _).2 (Nat.le_refl _)) ((h1 _).1 (Nat.le_refl _))

/-! Packed. -/
/-- byte j of those bits that stand below t. -/
def pby (f : Nat → Bool) (t j : Nat) : Nat := wN (fun q => decide (8 * j + q < t) && f (8 * j + q)) 8
theorem pby_lt (f : Nat → Bool) (t j : Nat) : pby f t j < 256 := wN_lt _ 8
theorem pby_bit (f : Nat → Bool) (t j q : Nat) : (pby f t j).testBit q = (decide (q < 8) && (decide (8 * j + q < t) && f (8 * j + q))) := wN_bit _ 8 q
def pbys (f : Nat → Bool) (t m : Nat) : List UInt8 := (List.range m).map fun j => UInt8.ofNat (pby f t j)
theorem pbys_len (f : Nat → Bool) (t m : Nat) : (pbys f t m).length = m := by simp [pbys]
theorem pbys_at {f : Nat → Bool} {t m j : Nat} (h : j < m) : (pbys f t m).getD j 0 = UInt8.ofNat (pby f t j) := by simp [pbys, h]
theorem pbys_nat {f : Nat → Bool} {t m j : Nat} (h : j < m) : ((pbys f t m).getD j 0).toNat = pby f t j := by rw [pbys_at h, ofNat_toNat (pby_lt _ _ _)]
theorem pbys_cell {f : Nat → Bool} {t m j : Nat} (h : j < m) : (by8 (pbys f t m))[j]? = some (.int .u8 (pby f t j : Nat)) := by
  rw [by8_get _ _ (by rw [pbys_len]; exact h), pbys_nat h]
theorem pby_same {f : Nat → Bool} {t t' j : Nat} (h1 : t ≤ t') (h2 : t' ≤ 8 * (t / 8) + 8) (hj : j ≠ t / 8) : pby f t j = pby f t' j := by
  unfold pby
  apply wN_congr
  intro q hq
  congr 1
  by_cases h : 8 * j + q < t
  · rw [decide_eq_true h, decide_eq_true (by omega)]
  · rw [decide_eq_false h, decide_eq_false (by omega)]
theorem pbys_set {f : Nat → Bool} {t t' m : Nat} (h1 : t ≤ t') (h2 : t' ≤ 8 * (t / 8) + 8) : (by8 (pbys f t m)).set (t / 8) (.int .u8 (pby f t' (t / 8) : Nat)) = by8 (pbys f t' m) := by
  apply List.ext_getElem
  · simp [by8, pbys]
  · intro k k1 k2
    have hk : k < m := by simpa [by8, pbys] using k1
    by_cases e : t / 8 = k
    · subst e
      rw [List.getElem_set_self]
      have := pbys_cell (f := f) (t := t') hk
      rw [List.getElem?_eq_getElem (by simpa [by8, pbys] using hk)] at this
      exact (Option.some.inj this).symm
    · rw [List.getElem_set_ne e]
      have a1 := pbys_cell (f := f) (t := t') hk
      have a2 := pbys_cell (f := f) (t := t) hk
      rw [List.getElem?_eq_getElem (by simpa [by8, pbys] using hk)] at a1 a2
      rw [Option.some.inj a1, Option.some.inj a2, pby_same h1 h2 (fun h => e h.symm)]
theorem pby_step {f : Nat → Bool} {t d x : Nat} (hd : t % 8 + d ≤ 8) (hx : x < 256)
    (hb : ∀ q, q < 8 → x.testBit q = (decide (t % 8 ≤ q) && decide (q < t % 8 + d) && f (8 * (t / 8) + q))) : pby f t (t / 8) ||| x = pby f (t + d) (t / 8) := by
  refine wN_ext (k := 8) (Nat.or_lt_two_pow (pby_lt _ _ _) hx) ?_
  intro q hq
  rw [Nat.testBit_or, pby_bit, hb q hq, decide_eq_true hq, Bool.true_and]
  by_cases h1 : 8 * (t / 8) + q < t
  · rw [decide_eq_true h1, decide_eq_false (show ¬ t % 8 ≤ q by omega), decide_eq_true (show 8 * (t / 8) + q < t + d by omega)]; simp
  · rw [decide_eq_false h1, decide_eq_true (show t % 8 ≤ q by omega)]
    by_cases h2 : q < t % 8 + d
    · rw [decide_eq_true h2, decide_eq_true (show 8 * (t / 8) + q < t + d by omega)]; simp
    · rw [decide_eq_false h2, decide_eq_false (show ¬ 8 * (t / 8) + q < t + d by omega)]; simp
theorem pby_zero {f : Nat → Bool} {t j : Nat} (h : t ≤ 8 * j) : pby f t j = 0 := by
  apply Nat.eq_of_testBit_eq
  intro q
  rw [pby_bit, decide_eq_false (show ¬ 8 * j + q < t by omega)]
  simp
theorem pbys_none (f : Nat → Bool) (m : Nat) : by8 (pbys f 0 m) = List.replicate m (.int .u8 0) := by
  apply List.ext_getElem
  · simp [by8, pbys]
  · intro k k1 k2
    have hk : k < m := by simpa [by8, pbys] using k1
    have a1 := pbys_cell (f := f) (t := 0) hk
    rw [List.getElem?_eq_getElem (by simpa [by8, pbys] using hk), pby_zero (Nat.zero_le _)] at a1
    rw [Option.some.inj a1]
    simp
theorem pbys_more {f : Nat → Bool} {t m : Nat} (h : t ≤ 8 * m) : pbys f t (m + 1) = pbys f t m ++ [0] := by
  unfold pbys
  rw [List.range_succ, List.map_append, List.map_cons, List.map_nil, pby_zero h]
  rfl

/-- bit p of numbers one behind the other; of bytes. -/
def pbit (w : Nat) (l : List Nat) (p : Nat) : Bool := (l.getD (p / w) 0).testBit (p % w)
def bbit (b : List UInt8) (p : Nat) : Bool := ((b.getD (p / 8) 0).toNat).testBit (p % 8)
def psz (w n : Nat) : Nat := (w * n + 7) / 8
def packed (w : Nat) (l : List Nat) : List UInt8 := pbys (pbit w l) (w * l.length) (psz w l.length)
theorem packed_len (w : Nat) (l : List Nat) : (packed w l).length = psz w l.length := pbys_len _ _ _
theorem packed_0 (l : List Nat) : packed 0 l = [] := by
  have : psz 0 l.length = 0 := by simp [psz]
  unfold packed
  rw [this]
  rfl
theorem at_div {w i k : Nat} (hk : k < w) : (w * i + k) / w = i ∧ (w * i + k) % w = k := by
  have hw : 0 < w := by omega
  rw [Nat.mul_add_div hw, Nat.div_eq_of_lt hk, Nat.mul_add_mod, Nat.mod_eq_of_lt hk]
  exact ⟨rfl, rfl⟩
theorem pbit_at {w i k : Nat} (l : List Nat) (hk : k < w) : pbit w l (w * i + k) = (l.getD i 0).testBit k := by
  unfold pbit
  rw [(at_div hk).1, (at_div hk).2]
/-- a part of a number, shifted to its place in a byte. -/
def part (u k d s : Nat) : Nat := ((u >>> k) &&& (2 ^ d - 1)) <<< s
theorem part_bit (u k d s q : Nat) : (part u k d s).testBit q = (decide (s ≤ q) && (u.testBit (k + (q - s)) && decide (q - s < d))) := by
  unfold part
  rw [Nat.testBit_shiftLeft, Nat.testBit_and, Nat.testBit_shiftRight, Nat.testBit_two_pow_sub_one]
theorem part_lt {u k d s n : Nat} (h : s + d ≤ n) : part u k d s < 2 ^ n := by
  apply Nat.lt_pow_two_of_testBit
  intro q hq
  rw [part_bit]
  rw [decide_eq_false (show ¬ q - s < d by omega)]
  simp
theorem pack_step {w i k d : Nat} (l : List Nat) (hk : k + d ≤ w) (hd : (w * i + k) % 8 + d ≤ 8) :
    pby (pbit w l) (w * i + k) ((w * i + k) / 8) ||| part (l.getD i 0) k d ((w * i + k) % 8) = pby (pbit w l) (w * i + k + d) ((w * i + k) / 8) := by
  generalize ht : w * i + k = t at hd ⊢
  refine pby_step hd (part_lt (n := 8) hd) ?_
  intro q hq
  rw [part_bit]
  by_cases h1 : t % 8 ≤ q
  · by_cases h2 : q < t % 8 + d
    · have e : 8 * (t / 8) + q = w * i + (k + (q - t % 8)) := by omega
      rw [e, pbit_at l (by omega), decide_eq_true h1, decide_eq_true h2, decide_eq_true (show q - t % 8 < d by omega)]
      simp
    · rw [decide_eq_true h1, decide_eq_false h2, decide_eq_false (show ¬ q - t % 8 < d by omega)]; simp
  · rw [decide_eq_false h1]; rfl
theorem pbys_bit {f : Nat → Bool} {t m p : Nat} (h : p < 8 * m) : bbit (pbys f t m) p = (decide (p < t) && f p) := by
  unfold bbit
  rw [pbys_nat (show p / 8 < m by omega), pby_bit, decide_eq_true (show p % 8 < 8 by omega), show 8 * (p / 8) + p % 8 = p by omega]
  rfl
theorem packed_bit {w : Nat} {l : List Nat} {p : Nat} (h : p < w * l.length) : bbit (packed w l) p = pbit w l p := by
  have h1 : p < 8 * psz w l.length := by unfold psz; omega
  unfold packed
  rw [pbys_bit h1, decide_eq_true h]
  rfl

/-! Unpacked. -/
def unum (w : Nat) (b : List UInt8) (t j : Nat) : Nat := wN (fun q => decide (w * j + q < t) && bbit b (w * j + q)) w
theorem unum_lt (w : Nat) (b : List UInt8) (t j : Nat) : unum w b t j < 2 ^ w := wN_lt _ w
theorem unum_lt64 {w : Nat} (h : w ≤ 64) (b : List UInt8) (t j : Nat) : unum w b t j < 18446744073709551616 :=
  Nat.lt_of_lt_of_le (unum_lt w b t j) (p2 (b := 64) h)
theorem unum_bit (w : Nat) (b : List UInt8) (t j q : Nat) : (unum w b t j).testBit q = (decide (q < w) && (decide (w * j + q < t) && bbit b (w * j + q))) := wN_bit _ w q
def unums (w : Nat) (b : List UInt8) (t n : Nat) : List Nat := (List.range n).map (unum w b t)
theorem unums_len (w : Nat) (b : List UInt8) (t n : Nat) : (unums w b t n).length = n := by simp [unums]
theorem unums_at {w : Nat} {b : List UInt8} {t n j : Nat} (h : j < n) : (unums w b t n)[j]? = some (unum w b t j) := by simp [unums, h]
def unpacked (w n : Nat) (b : List UInt8) : List Nat := unums w b (w * n) n
theorem unpacked_len (w n : Nat) (b : List UInt8) : (unpacked w n b).length = n := unums_len _ _ _ _
theorem unpacked_lt {w n : Nat} {b : List UInt8} : ∀ u ∈ unpacked w n b, u < 2 ^ w := by
  intro u hu
  obtain ⟨j, _, rfl⟩ := List.mem_map.1 hu
  exact unum_lt _ _ _ _
theorem unpacked_64 {w n : Nat} {b : List UInt8} (h : w ≤ 64) : In64 (unpacked w n b) := fun u hu => Nat.lt_of_lt_of_le (unpacked_lt u hu) (p2 (b := 64) h)
theorem unpack_step {w i k d : Nat} (b : List UInt8) (hk : k + d ≤ w) (hd : (w * i + k) % 8 + d ≤ 8) :
    unum w b (w * i + k) i ||| part ((b.getD ((w * i + k) / 8) 0).toNat) ((w * i + k) % 8) d k = unum w b (w * i + k + d) i := by
  generalize ht : w * i + k = t at hd ⊢
  refine wN_ext (k := w) (Nat.or_lt_two_pow (unum_lt _ _ _ _) (part_lt hk)) ?_
  intro q hq
  rw [Nat.testBit_or, unum_bit, part_bit, decide_eq_true hq, Bool.true_and]
  by_cases h1 : k ≤ q
  · rw [decide_eq_false (show ¬ w * i + q < t by omega), decide_eq_true h1]
    by_cases h2 : q - k < d
    · have e : bbit b (w * i + q) = ((b.getD (t / 8) 0).toNat).testBit (t % 8 + (q - k)) := by
        unfold bbit
        rw [show (w * i + q) / 8 = t / 8 by omega, show (w * i + q) % 8 = t % 8 + (q - k) by omega]
      rw [decide_eq_true h2, decide_eq_true (show w * i + q < t + d by omega), e]
      simp
    · rw [decide_eq_false h2, decide_eq_false (show ¬ w * i + q < t + d by omega)]; simp
  · rw [decide_eq_true (show w * i + q < t by omega), decide_eq_false h1, decide_eq_true (show w * i + q < t + d by omega)]; simp
theorem unum_same {w i k d j : Nat} {b : List UInt8} (hk : k + d ≤ w) (hj : j ≠ i) : unum w b (w * i + k) j = unum w b (w * i + k + d) j := by
  unfold unum
  apply wN_congr
  intro q hq
  congr 1
  rcases Nat.lt_or_ge j i with h | h
  · have : w * (j + 1) ≤ w * i := Nat.mul_le_mul_left _ h
    rw [Nat.mul_add] at this
    rw [decide_eq_true (by omega), decide_eq_true (by omega)]
  · have : w * (i + 1) ≤ w * j := Nat.mul_le_mul_left _ (by omega)
    rw [Nat.mul_add] at this
    rw [decide_eq_false (by omega), decide_eq_false (by omega)]
theorem unums_set {w i k d n : Nat} {b : List UInt8} (hk : k + d ≤ w) (hi : i < n) : (unums w b (w * i + k) n).set i (unum w b (w * i + k + d) i) = unums w b (w * i + k + d) n := by
  apply List.ext_getElem
  · simp [unums]
  · intro j j1 j2
    have hj : j < n := by simpa [unums] using j1
    by_cases e : i = j
    · subst e
      simp [unums]
    · rw [List.getElem_set_ne e]
      simp only [unums, List.getElem_map, List.getElem_range]
      exact unum_same hk (fun h => e h.symm)
theorem unum_zero {w t j : Nat} {b : List UInt8} (h : t ≤ w * j) : unum w b t j = 0 := by
  apply Nat.eq_of_testBit_eq
  intro q
  rw [unum_bit, decide_eq_false (show ¬ w * j + q < t by omega)]
  simp
theorem unums_none (w : Nat) (b : List UInt8) (n : Nat) : unums w b 0 n = List.replicate n 0 := by
  apply List.ext_getElem
  · simp [unums]
  · intro j j1 j2
    simp [unums, unum_zero]

/-- what is left of the last byte. -/
def leftN (b : List UInt8) (t : Nat) : Nat := if t % 8 = 0 then 0 else (b.getD (t / 8) 0).toNat >>> (t % 8)
theorem leftN_iff {b : List UInt8} {t : Nat} (hl : b.length = (t + 7) / 8) : leftN b t = 0 ↔ ∀ p, t ≤ p → p < 8 * b.length → bbit b p = false := by
  unfold leftN
  by_cases h0 : t % 8 = 0
  · rw [if_pos h0]
    exact ⟨fun _ p h1 h2 => by omega, fun _ => rfl⟩
  · rw [if_neg h0]
    constructor
    · intro h p h1 h2
      have e : p / 8 = t / 8 := by omega
      unfold bbit
      rw [e]
      have := congrArg (fun n => n.testBit (p % 8 - t % 8)) h
      simp only [Nat.testBit_shiftRight, Nat.zero_testBit] at this
      rwa [show t % 8 + (p % 8 - t % 8) = p % 8 by omega] at this
    · intro h
      apply Nat.eq_of_testBit_eq
      intro q
      rw [Nat.testBit_shiftRight, Nat.zero_testBit]
      by_cases hq : t % 8 + q < 8
      · have := h (t + q) (by omega) (by omega)
        unfold bbit at this
        rwa [show (t + q) / 8 = t / 8 by omega, show (t + q) % 8 = t % 8 + q by omega] at this
      · exact Nat.testBit_lt_two_pow (Nat.lt_of_lt_of_le (b.getD (t / 8) 0).toNat_lt (p2 (a := 8) (b := t % 8 + q) (by omega)))

/-! To and fro. -/
theorem unpack_pack {w : Nat} {l : List Nat} (h : ∀ u ∈ l, u < 2 ^ w) : unpacked w l.length (packed w l) = l := by
  apply List.ext_getElem
  · rw [unpacked_len]
  · intro i i1 i2
    simp only [unpacked, unums, List.getElem_map, List.getElem_range]
    refine (wN_ext (h _ (List.getElem_mem i2)) ?_).symm
    intro q hq
    have hlt : w * i + q < w * l.length := by
      have : w * (i + 1) ≤ w * l.length := Nat.mul_le_mul_left _ i2
      rw [Nat.mul_add] at this
      omega
    rw [decide_eq_true hlt, packed_bit hlt, pbit_at l hq]
    simp [List.getElem?_eq_getElem i2]
theorem packed_left (w : Nat) (l : List Nat) : leftN (packed w l) (w * l.length) = 0 := by
  rw [leftN_iff (by rw [packed_len]; rfl)]
  intro p h1 h2
  rw [packed_len] at h2
  unfold packed
  rw [pbys_bit h2, decide_eq_false (by omega)]
  rfl
theorem bytes_ext {a b : List UInt8} (hl : a.length = b.length) (h : ∀ p, p < 8 * a.length → bbit a p = bbit b p) : a = b := by
  apply List.ext_getElem hl
  intro i i1 i2
  apply UInt8.toNat_inj.1
  apply Nat.eq_of_testBit_eq
  intro q
  by_cases hq : q < 8
  · have := h (8 * i + q) (by omega)
    unfold bbit at this
    rw [show (8 * i + q) / 8 = i by omega, show (8 * i + q) % 8 = q by omega] at this
    simpa [List.getElem?_eq_getElem i1, List.getElem?_eq_getElem i2] using this
  · have hb : ∀ x : UInt8, x.toNat.testBit q = false := fun x => Nat.testBit_lt_two_pow (Nat.lt_of_lt_of_le x.toNat_lt (p2 (a := 8) (b := q) (by omega)))
    rw [hb, hb]
theorem pack_unpack {w n : Nat} {b : List UInt8} (hl : b.length = psz w n) (h : leftN b (w * n) = 0) : packed w (unpacked w n b) = b := by
  have hl2 : (packed w (unpacked w n b)).length = b.length := by rw [packed_len, unpacked_len, hl]
  refine bytes_ext hl2 ?_
  intro p hp
  rw [hl2] at hp
  by_cases hlt : p < w * n
  · rw [packed_bit (by rw [unpacked_len]; exact hlt)]
    have hw : 0 < w := by
      rcases Nat.eq_zero_or_pos w with e | e
      · rw [e, Nat.zero_mul] at hlt; omega
      · exact e
    have hm : p % w < w := Nat.mod_lt _ hw
    have hd : p / w < n := Nat.div_lt_of_lt_mul hlt
    have e : w * (p / w) + p % w = p := Nat.div_add_mod p w
    unfold pbit
    have e2 : (unpacked w n b).getD (p / w) 0 = unum w b (w * n) (p / w) := by
      unfold unpacked
      rw [List.getD_eq_getElem?_getD, unums_at hd]
      rfl
    rw [e2, unum_bit, decide_eq_true hm, e, decide_eq_true hlt]
    rfl
  · rw [(leftN_iff (by rw [hl]; rfl)).1 h p (by omega) hp]
    unfold packed
    rw [pbys_bit (by rw [unpacked_len, ← hl]; exact hp), unpacked_len, decide_eq_false hlt]
    rfl

/-- Bits, Unbits, of whatever numbers. -/
def bitsZ (l : List Nat) (w : Int) : List UInt8 := if 0 ≤ w ∧ w ≤ 64 then packed w.toNat l else []
def unbitsZ (b : List UInt8) (w n : Int) : List Nat × Int :=
  if w < 0 ∨ 64 < w ∨ n < 0 ∨ 1048576 < n then ([], 1)
  else if b.length ≠ psz w.toNat n.toNat ∨ leftN b (w.toNat * n.toNat) ≠ 0 then ([], 20) else (unpacked w.toNat n.toNat b, 0)
end Go.Proofs.Ytpnhnnhocekchaa
namespace Go.Proofs.Ytpnhnnhocekchaa
set_option linter.unusedVariables false
set_option linter.unusedSimpArgs false
open Go.RowKit

def zN (l : List Nat) : List Int := l.map fun (n : Nat) => (n : Int)
def nz (l : List Nat) : List Value := iz .u64 (zN l)
theorem zN_len (l : List Nat) : (zN l).length = l.length := by simp [zN]
theorem nz_len (l : List Nat) : (nz l).length = l.length := by simp [nz, iz, zN]
theorem nz_append (l m : List Nat) : nz (l ++ m) = nz l ++ nz m := by simp [nz, iz, zN]
theorem nz_take (l : List Nat) (n : Nat) : nz (l.take n) = (nz l).take n := by simp [nz, iz, zN, List.map_take]
theorem nz_one (l : List Nat) : ∀ u ∈ nz l, u.oneCell' = true := iz_one _ _
theorem nz_at (l : List Nat) {j : Nat} (h : j < l.length) : (nz l)[j]? = some (.int .u64 (l.getD j 0 : Nat)) := by simp [nz, iz, zN, h]
theorem nz_set (l : List Nat) (i : Nat) (v : Nat) : (nz l).set i (.int .u64 (v : Nat)) = nz (l.set i v) := by simp [nz, iz, zN, List.map_set]
theorem nz_rep (n : Nat) : nz (List.replicate n 0) = List.replicate n (.int .u64 0) := by simp [nz, iz, zN]
theorem zN_inj {l m : List Nat} (h : zN l = zN m) : l = m := by
  unfold zN at h
  exact List.map_inj_right (fun x y hxy => by omega) |>.1 h
theorem zN_eq (l m : List Nat) : (zN l = zN m) = (l = m) := propext ⟨zN_inj, fun h => by rw [h]⟩
theorem zN_of {l : List Int} (h : ∀ z ∈ l, 0 ≤ z) : zN (l.map Int.toNat) = l := by
  unfold zN
  rw [List.map_map]
  conv => rhs; rw [← List.map_id l]
  apply List.map_congr_left
  intro x hx
  have := h x hx
  simp
  omega
theorem Rd.natAt {w : World} {B : Nat} {A : Option Addr} {l : List Nat} (h : Rd w B A (nz l)) {j : Nat} (hj : j < l.length) : ∃ ad, A = some ad ∧ ad.block < B ∧ w.cell? (ad.add j) = some (.int .u64 (l.getD j 0 : Nat)) :=
  h j _ (nz_at l hj)
theorem In64.at {l : List Nat} (h : In64 l) (j : Nat) : l.getD j 0 < 18446744073709551616 := by
  by_cases hj : j < l.length
  · have : l.getD j 0 = l[j] := by simp [List.getElem?_eq_getElem hj]
    rw [this]
    exact h _ (List.getElem_mem hj)
  · have : l.getD j 0 = 0 := by simp [List.getElem?_eq_none (Nat.le_of_not_lt hj)]
    omega
theorem take_snocN {l : List Nat} {k : Nat} (h : k < l.length) : l.take (k + 1) = l.take k ++ [l.getD k 0] := by
  rw [List.take_succ_eq_append_getElem h]
  simp [List.getElem?_eq_getElem h]
theorem orL_take {l : List Nat} (h : In64 l) (k : Nat) : orL (l.take k) < 18446744073709551616 := orL_64 fun u hu => h u (List.mem_of_mem_take hu)
theorem wid_take {l : List Nat} (h : In64 l) (k : Nat) : wid (l.take k) ≤ 64 := wid_64 fun u hu => h u (List.mem_of_mem_take hu)
end Go.Proofs.Ytpnhnnhocekchaa
