/- Several texts in one: PackP, Slices8, Rd, PackR, SizeP, BytesP, Number. -/
import Derived.Test.YthlbfnoahdjdeaaK1
import Derived.Lib.BitFns
namespace Go.Proofs.Ythlbfnoahdjdeaa
set_option linter.unusedVariables false
set_option linter.unusedSimpArgs false
open Go.RowKit

theorem p2 {a b : Nat} (h : a ≤ b) : 2 ^ a ≤ 2 ^ b := Nat.pow_le_pow_right (by omega) h
/-! The width. -/
theorem bla_lt : ∀ (f x : Nat), x < 2 ^ f → x < 2 ^ Lib.bitLenAux f x
  | 0, x, h => by simpa [Lib.bitLenAux] using h
  | f + 1, x, h => by
    rw [Lib.bitLenAux]
    by_cases h0 : x = 0
    · rw [if_pos h0, h0]; decide
    · rw [if_neg h0, Nat.add_comm, Nat.pow_succ]
      have := bla_lt f (x / 2) (by rw [Nat.pow_succ] at h; omega)
      omega
theorem blen_le {x : Nat} (w : Nat) (hx : x < 18446744073709551616) : Lib.bitLen x ≤ w ↔ x < 2 ^ w := by
  constructor
  · intro h
    exact Nat.lt_of_lt_of_le (bla_lt 64 x hx) (Nat.pow_le_pow_right (by omega) h)
  · intro h
    exact Lib.bitLenAux_le 64 x w h
theorem blen_64 {x : Nat} (hx : x < 18446744073709551616) : Lib.bitLen x ≤ 64 := (blen_le 64 hx).2 hx
/-- numbers of 64 bits. -/
def In64 (l : List Nat) : Prop := ∀ u ∈ l, u < 18446744073709551616
def wid (l : List Nat) : Nat := l.foldl (fun w u => max w (Lib.bitLen u)) 0
theorem widF (l : List Nat) (a w : Nat) : l.foldl (fun w u => max w (Lib.bitLen u)) a ≤ w ↔ a ≤ w ∧ ∀ u ∈ l, Lib.bitLen u ≤ w := by
  induction l generalizing a with
  | nil => simp
  | cons x r ih =>
    rw [List.foldl_cons, ih]
    simp only [List.mem_cons, forall_eq_or_imp]
    constructor
    · exact fun ⟨h1, h2⟩ => ⟨by omega, by omega, h2⟩
    · exact fun ⟨h1, h2, h3⟩ => ⟨by omega, h3⟩
theorem wid_le {l : List Nat} (h : In64 l) (w : Nat) : wid l ≤ w ↔ ∀ u ∈ l, u < 2 ^ w := by
  unfold wid
  rw [widF]
  constructor
  · exact fun ⟨_, h1⟩ u hu => (blen_le w (h u hu)).1 (h1 u hu)
  · exact fun h1 => ⟨Nat.zero_le _, fun u hu => (blen_le w (h u hu)).2 (h1 u hu)⟩
theorem wid_64 {l : List Nat} (h : In64 l) : wid l ≤ 64 := (wid_le h 64).2 h
theorem wid_lt {l : List Nat} (h : In64 l) : ∀ u ∈ l, u < 2 ^ wid l := (wid_le h _).1 (Nat.le_refl _)
theorem wid_snoc (l : List Nat) (u : Nat) : wid (l ++ [u]) = max (wid l) (Lib.bitLen u) := by simp [wid, List.foldl_append]
def orL (l : List Nat) : Nat := l.foldl (· ||| ·) 0
theorem orL_snoc (l : List Nat) (u : Nat) : orL (l ++ [u]) = orL l ||| u := by simp [orL, List.foldl_append]
theorem orF (l : List Nat) (a w : Nat) : l.foldl (· ||| ·) a < 2 ^ w ↔ a < 2 ^ w ∧ ∀ u ∈ l, u < 2 ^ w := by
  induction l generalizing a with
  | nil => simp
  | cons x r ih =>
    rw [List.foldl_cons, ih]
    simp only [List.mem_cons, forall_eq_or_imp]
    constructor
    · exact fun ⟨h1, h2⟩ => ⟨Nat.lt_of_le_of_lt Nat.left_le_or h1, Nat.lt_of_le_of_lt Nat.right_le_or h1, h2⟩
    · exact fun ⟨h1, h2, h3⟩ => ⟨Nat.or_lt_two_pow h1 h2, h3⟩
theorem orL_lt (l : List Nat) (w : Nat) : orL l < 2 ^ w ↔ ∀ u ∈ l, u < 2 ^ w := by
  unfold orL
  rw [orF]
  exact ⟨fun h => h.2, fun h => ⟨Nat.two_pow_pos w, h⟩⟩
theorem orL_64 {l : List Nat} (h : In64 l) : orL l < 18446744073709551616 := (orL_lt l 64).2 h
theorem orL_wid {l : List Nat} (h : In64 l) : Lib.bitLen (orL l) = wid l := by
  have h1 : ∀ w, Lib.bitLen (orL l) ≤ w ↔ wid l ≤ w := fun w => by rw [blen_le w (orL_64 h), orL_lt, wid_le h]
  exact Nat.le_antisymm ((h1 _).2 (Nat.le_refl _)) ((h1 _).1 (Nat.le_refl _))

/-! Packed. -/
/-- byte j of those bits that stand below t. -/
def pby (f : Nat → Bool) (t j : Nat) : Nat := wN (fun q => decide (8 * j + q < t) && f (8 * j + q)) 8
theorem pby_lt (f : Nat → Bool) (t j : Nat) : pby f t j < 256 := wN_lt _ 8
theorem pby_bit (f : Nat → Bool) (t j q : Nat) : (pby f t j).testBit q = (decide (q < 8) && (decide (8 * j + q < t) && f (8 * j + q))) := wN_bit _ 8 q
def pbys (f : Nat → Bool) (t m : Nat) : List UInt8 := (List.range m).map fun j => UInt8.ofNat (pby f t j)
theorem pbys_len (f : Nat → Bool) (t m : Nat) : (pbys f t m).length = m := by simp [pbys]
theorem pbys_at {f : Nat → Bool} {t m j : Nat} (h : j < m) : (pbys f t m).getD j 0 = UInt8.ofNat (pby f t j) := by simp [pbys, h]
theorem pbys_nat {f : Nat → Bool} {t m j : Nat} (h : j < m) : ((pbys f t m).getD j 0).toNat = pby f t j := by rw [pbys_at h, ofNat_toNat (pby_lt _ _ _)]
theorem pbys_cell {f : Nat → Bool} {t m j : Nat} (h : j < m) : (by8 (pbys f t m))[j]? = some (.int .u8 (pby f t j : Nat)) := by
  rw [by8_get _ _ (by rw [pbys_len]; exact h), pbys_nat h]
theorem pby_same {f : Nat → Bool} {t t' j : Nat} (h1 : t ≤ t') (h2 : t' ≤ 8 * (t / 8) + 8) (hj : j ≠ t / 8) : pby f t j = pby f t' j := by
  unfold pby
  apply wN_congr
  intro q hq
  congr 1
  by_cases h : 8 * j + q < t
  · rw [decide_eq_true h, decide_eq_true (by omega)]
  · rw [decide_eq_false h, decide_eq_false (by omega)]
theorem pbys_set {f : Nat → Bool} {t t' m : Nat} (h1 : t ≤ t') (h2 : t' ≤ 8 * (t / 8) + 8) : (by8 (pbys f t m)).set (t / 8) (.int .u8 (pby f t' (t / 8) : Nat)) = by8 (pbys f t' m) := by
  apply List.ext_getElem
  · simp [by8, pbys]
  · intro k k1 k2
    have hk : k < m := by simpa [by8, pbys] using k1
    by_cases e : t / 8 = k
    · subst e
      rw [List.getElem_set_self]
      have := pbys_cell (f := f) (t := t') hk
      rw [List.getElem?_eq_getElem (by simpa [by8, pbys] using hk)] at this
      exact (Option.some.inj this).symm
    · rw [List.getElem_set_ne e]
      have a1 := pbys_cell (f := f) (t := t') hk
      have a2 := pbys_cell (f := f) (t := t) hk
      rw [List.getElem?_eq_getElem (by simpa [by8, pbys] using hk)] at a1 a2
      rw [Option.some.inj a1, Option.some.inj a2, pby_same h1 h2 (fun h => e h.symm)]
theorem pby_step {f : Nat → Bool} {t d x : Nat} (hd : t % 8 + d ≤ 8) (hx : x < 256)
    (hb : ∀ q, q < 8 → x.testBit q = (decide (t % 8 ≤ q) && decide (q < t % 8 + d) && f (8 * (t / 8) + q))) : pby f t (t / 8) ||| x = pby f (t + d) (t / 8) := by
  refine wN_ext (k := 8) (Nat.or_lt_two_pow (pby_lt _ _ _) hx) ?_
  intro q hq
  rw [Nat.testBit_or, pby_bit, hb q hq, decide_eq_true hq, Bool.true_and]
  by_cases h1 : 8 * (t / 8) + q < t
  · rw [decide_eq_true h1, decide_eq_false (show ¬ t % 8 ≤ q by omega), decide_eq_true (show 8 * (t / 8) + q < t + d by omega)]; simp
  · rw [decide_eq_false h1, decide_eq_true (show t % 8 ≤ q by omega)]
    by_cases h2 : q < t % 8 + d
    · rw [decide_eq_true h2, decide_eq_true (show 8 * (t / 8) + q < t + d by omega)]; simp
    · rw [decide_eq_false h2, decide_eq_false (show ¬ 8 * (t / 8) + q < t + d by omega)]; simp
theorem pby_zero {f : Nat → Bool} {t j : Nat} (h : t ≤ 8 * j) : pby f t j = 0 := by
  apply Nat.eq_of_testBit_eq
  intro q
  rw [pby_bit, decide_eq_false (show ¬ 8 * j + q < t by omega)]
  simp
theorem pbys_none (f : Nat → Bool) (m : Nat) : by8 (pbys f 0 m) = List.replicate m (.int .u8 0) := by
  apply List.ext_getElem
  · simp [by8, pbys]
  · intro k k1 k2
    have hk : k < m := by simpa [by8, pbys] using k1
    have a1 := pbys_cell (f := f) (t := 0) hk
    rw [List.getElem?_eq_getElem (by simpa [by8, pbys] using hk), pby_zero (Nat.zero_le _)] at a1
    rw [Option.some.inj a1]
    simp
theorem pbys_more {f : Nat → Bool} {t m : Nat} (h : t ≤ 8 * m) : pbys f t (m + 1) = pbys f t m ++ [0] := by
  unfold pbys
  rw [List.range_succ, List.map_append, List.map_cons, List.map_nil, pby_zero h]
  rfl

/-- bit p of numbers one behind the other; of bytes. -/
def pbit (w : Nat) (l : List Nat) (p : Nat) : Bool := (l.getD (p / w) 0).testBit (p % w)
def bbit (b : List UInt8) (p : Nat) : Bool := ((b.getD (p / 8) 0).toNat).testBit (p % 8)
def psz (w n : Nat) : Nat := (w * n + 7) / 8
def packed (w : Nat) (l : List Nat) : List UInt8 := pbys (pbit w l) (w * l.length) (psz w l.length)
theorem packed_len (w : Nat) (l : List Nat) : (packed w l).length = psz w l.length := pbys_len _ _ _
theorem packed_0 (l : List Nat) : packed 0 l = [] := by
  have : psz 0 l.length = 0 := by simp [psz]
  unfold packed
  rw [this]
  rfl
theorem at_div {w i k : Nat} (hk : k < w) : (w * i + k) / w = i ∧ (w * i + k) % w = k := by
  have hw : 0 < w := by omega
  rw [Nat.mul_add_div hw, Nat.div_eq_of_lt hk, Nat.mul_add_mod, Nat.mod_eq_of_lt hk]
  exact ⟨rfl, rfl⟩
theorem pbit_at {w i k : Nat} (l : List Nat) (hk : k < w) : pbit w l (w * i + k) = (l.getD i 0).testBit k := by
  unfold pbit
  rw [(at_div hk).1, (at_div hk).2]
/-- a part of a number, shifted to its place in a byte. -/
def part (u k d s : Nat) : Nat := ((u >>> k) &&& (2 ^ d - 1)) <<< s
theorem part_bit (u k d s q : Nat) : (part u k d s).testBit q = (decide (s ≤ q) && (u.testBit (k + (q - s)) && decide (q - s < d))) := by
  unfold part
  rw [Nat.testBit_shiftLeft, Nat.testBit_and, Nat.testBit_shiftRight, Nat.testBit_two_pow_sub_one]
theorem part_lt {u k d s n : Nat} (h : s + d ≤ n) : part u k d s < 2 ^ n := by
  apply Nat.lt_pow_two_of_testBit
  intro q hq
  rw [part_bit]
  rw [decide_eq_false (show ¬ q - s < d by omega)]
  simp
theorem pack_step {w i k d : Nat} (l : List Nat) (hk : k + d ≤ w) (hd : (w * i + k) % 8 + d ≤ 8) :
    pby (pbit w l) (w * i + k) ((w * i + k) / 8) ||| part (l.getD i 0) k d ((w * i + k) % 8) = pby (pbit w l) (w * i + k + d) ((w * i + k) / 8) := by
  generalize ht : w * i + k = t at hd ⊢
  refine pby_step hd (part_lt (n := 8) hd) ?_
  intro q hq
  rw [part_bit]
  by_cases h1 : t % 8 ≤ q
  · by_cases h2 : q < t % 8 + d
    · have e : 8 * (t / 8) + q = w * i + (k + (q - t % 8)) := by omega
      rw [e, pbit_at l (by omega), decide_eq_true h1, decide_eq_true h2, decide_eq_true (show q - t % 8 < d by omega)]
      simp
    · rw [decide_eq_true h1, decide_eq_false h2, decide_eq_false (show ¬ q - t % 8 < d by omega)]; simp
  · rw [decide_eq_false h1]; rfl
theorem pbys_bit {f : Nat → Bool} {t m p : Nat} (h : p < 8 * m) : bbit (pbys f t m) p = (decide (p < t) && f p) := by
  unfold bbit
  rw [pbys_nat (show p / 8 < m by omega), pby_bit, decide_eq_true (show p % 8 < 8 by omega), show 8 * (p / 8) + p % 8 = p by omega]
  rfl
theorem packed_bit {w : Nat} {l : List Nat} {p : Nat} (h : p < w * l.length) : bbit (packed w l) p = pbit w l p := by
  have h1 : p < 8 * psz w l.length := by unfold psz; omega
  unfold packed
  rw [pbys_bit h1, decide_eq_true h]
  rfl

/-! Unpacked. -/
def unum (w : Nat) (b : List UInt8) (t j : Nat) : Nat := wN (fun q => decide (w * j + q < t) && bbit b (w * j + q)) w
theorem unum_lt (w : Nat) (b : List UInt8) (t j : Nat) : unum w b t j < 2 ^ w := wN_lt _ w
theorem unum_lt64 {w : Nat} (h : w ≤ 64) (b : List UInt8) (t j : Nat) : unum w b t j < 18446744073709551616 :=
  Nat.lt_of_lt_of_le (unum_lt w b t j) (p2 (b := 64) h)
theorem unum_bit (w : Nat) (b : List UInt8) (t j q : Nat) : (unum w b t j).testBit q = (decide (q < w) && (decide (w * j + q < t) && bbit b (w * j + q))) := wN_bit _ w q
def unums (w : Nat) (b : List UInt8) (t n : Nat) : List Nat := (List.range n).map (unum w b t)
theorem unums_len (w : Nat) (b : List UInt8) (t n : Nat) : (unums w b t n).length = n := by simp [unums]
theorem unums_at {w : Nat} {b : List UInt8} {t n j : Nat} (h : j < n) : (unums w b t n)[j]? = some (unum w b t j) := by simp [unums, h]
def unpacked (w n : Nat) (b : List UInt8) : List Nat := unums w b (w * n) n
theorem unpacked_len (w n : Nat) (b : List UInt8) : (unpacked w n b).length = n := unums_len _ _ _ _
theorem unpacked_lt {w n : Nat} {b : List UInt8} : ∀ u ∈ unpacked w n b, u < 2 ^ w := by
  intro u hu
  obtain ⟨j, _, rfl⟩ := List.mem_map.1 hu
  exact unum_lt _ _ _ _
theorem unpacked_64 {w n : Nat} {b : List UInt8} (h : w ≤ 64) : In64 (unpacked w n b) := fun u hu => Nat.lt_of_lt_of_le (unpacked_lt u hu) (p2 (b := 64) h)
theorem unpack_step {w i k d : Nat} (b : List UInt8) (hk : k + d ≤ w) (hd : (w * i + k) % 8 + d ≤ 8) :
    unum w b (w * i + k) i ||| part ((b.getD ((w * i + k) / 8) 0).toNat) ((w * i + k) % 8) d k = unum w b (w * i + k + d) i := by
  generalize ht : w * i + k = t at hd ⊢
  refine wN_ext (k := w) (Nat.or_lt_two_pow (unum_lt _ _ _ _) (part_lt hk)) ?_
  intro q hq
  rw [Nat.testBit_or, unum_bit, part_bit, decide_eq_true hq, Bool.true_and]
  by_cases h1 : k ≤ q
  · rw [decide_eq_false (show ¬ w * i + q < t by omega), decide_eq_true h1]
    by_cases h2 : q - k < d
    · have e : bbit b (w * i + q) = ((b.getD (t / 8) 0).toNat).testBit (t % 8 + (q - k)) := by
        unfold bbit
        rw [show (w * i + q) / 8 = t / 8 by omega, show (w * i + q) % 8 = t % 8 + (q - k) by omega]
      rw [decide_eq_true h2, decide_eq_true (show w * i + q < t + d by omega), e]
      simp
    · rw [decide_eq_false h2, decide_eq_false (show ¬ w * i + q < t + d by omega)]; simp
  · rw [decide_eq_true (show w * i + q < t by omega), decide_eq_false h1, decide_eq_true (show w * i + q < t + d by omega)]; simp
theorem unum_same {w i k d j : Nat} {b : List UInt8} (hk : k + d ≤ w) (hj : j ≠ i) : unum w b (w * i + k) j = unum w b (w * i + k + d) j := by
  unfold unum
  apply wN_congr
  intro q hq
  congr 1
  rcases Nat.lt_or_ge j i with h | h
  · have : w * (j + 1) ≤ w * i := Nat.mul_le_mul_left _ h
    rw [Nat.mul_add] at this
    rw [decide_eq_true (by omega), decide_eq_true (by omega)]
  · have : w * (i + 1) ≤ w * j := Nat.mul_le_mul_left _ (by omega)
    rw [Nat.mul_add] at this
    rw [decide_eq_false (by omega), decide_eq_false (by omega)]
theorem unums_set {w i k d n : Nat} {b : List UInt8} (hk : k + d ≤ w) (hi : i < n) : (unums w b (w * i + k) n).set i (unum w b (w * i + k + d) i) = unums w b (w * i + k + d) n := by
  apply List.ext_getElem
  · simp [unums]
  · intro j j1 j2
    have hj : j < n := by simpa [unums] using j1
    by_cases e : i = j
    · subst e
      simp [unums]
    · rw [List.getElem_set_ne e]
      simp only [unums, List.getElem_map, List.getElem_range]
      exact unum_same hk (fun h => e h.symm)
theorem unum_zero {w t j : Nat} {b : List UInt8} (h : t ≤ w * j) : unum w b t j = 0 := by
  apply Nat.eq_of_testBit_eq
  intro q
  rw [unum_bit, decide_eq_false (show ¬ w * j + q < t by omega)]
  simp
theorem unums_none (w : Nat) (b : List UInt8) (n : Nat) : unums w b 0 n = List.replicate n 0 := by
  apply List.ext_getElem
  · simp [unums]
  · intro j j1 j2
    simp [unums, unum_zero]

/-- what is left of the last byte. -/
def leftN (b : List UInt8) (t : Nat) : Nat := if t % 8 = 0 then 0 else (b.getD (t / 8) 0).toNat >>> (t % 8)
theorem leftN_iff {b : List UInt8} {t : Nat} (hl : b.length = (t + 7) / 8) : leftN b t = 0 ↔ ∀ p, t ≤ p → p < 8 * b.length → bbit b p = false := by
  unfold leftN
  by_cases h0 : t % 8 = 0
  · rw [if_pos h0]
    exact ⟨fun _ p h1 h2 => by omega, fun _ => rfl⟩
  · rw [if_neg h0]
    constructor
    · intro h p h1 h2
      have e : p / 8 = t / 8 := by omega
      unfold bbit
      rw [e]
      have := congrArg (fun n => n.testBit (p % 8 - t % 8)) h
      simp only [Nat.testBit_shiftRight, Nat.zero_testBit] at this
      rwa [show t % 8 + (p % 8 - t % 8) = p % 8 by omega] at this
    · intro h
      apply Nat.eq_of_testBit_eq
      intro q
      rw [Nat.testBit_shiftRight, Nat.zero_testBit]
      by_cases hq : t % 8 + q < 8
      · have := h (t + q) (by omega) (by omega)
        unfold bbit at this
        rwa [show (t + q) / 8 = t / 8 by omega, show (t + q) % 8 = t % 8 + q by omega] at this
      · exact Nat.testBit_lt_two_pow (Nat.lt_of_lt_of_le (b.getD (t / 8) 0).toNat_lt (p2 (a := 8) (b := t % 8 + q) (by omega)))

/-! To and fro. -/
theorem unpack_pack {w : Nat} {l : List Nat} (h : ∀ u ∈ l, u < 2 ^ w) : unpacked w l.length (packed w l) = l := by
  apply List.ext_getElem
  · rw [unpacked_len]
  · intro i i1 i2
    simp only [unpacked, unums, List.getElem_map, List.getElem_range]
    refine (wN_ext (h _ (List.getElem_mem i2)) ?_).symm
    intro q hq
    have hlt : w * i + q < w * l.length := by
      have : w * (i + 1) ≤ w * l.length := Nat.mul_le_mul_left _ i2
      rw [Nat.mul_add] at this
      omega
    rw [decide_eq_true hlt, packed_bit hlt, pbit_at l hq]
    simp [List.getElem?_eq_getElem i2]
theorem packed_left (w : Nat) (l : List Nat) : leftN (packed w l) (w * l.length) = 0 := by
  rw [leftN_iff (by rw [packed_len]; rfl)]
  intro p h1 h2
  rw [packed_len] at h2
  unfold packed
  rw [pbys_bit h2, decide_eq_false (by omega)]
  rfl
theorem bytes_ext {a b : List UInt8} (hl : a.length = b.length) (h : ∀ p, p < 8 * a.length → bbit a p = bbit b p) : a = b := by
  apply List.ext_getElem hl
  intro i i1 i2
  apply UInt8.toNat_inj.1
  apply Nat.eq_of_testBit_eq
  intro q
  by_cases hq : q < 8
  · have := h (8 * i + q) (by omega)
    unfold bbit at this
    rw [show (8 * i + q) / 8 = i by omega, show (8 * i + q) % 8 = q by omega] at this
    simpa [List.getElem?_eq_getElem i1, List.getElem?_eq_getElem i2] using this
  · have hb : ∀ x : UInt8, x.toNat.testBit q = false := fun x => Nat.testBit_lt_two_pow (Nat.lt_of_lt_of_le x.toNat_lt (p2 (a := 8) (b := q) (by omega)))
    rw [hb, hb]
theorem pack_unpack {w n : Nat} {b : List UInt8} (hl : b.length = psz w n) (h : leftN b (w * n) = 0) : packed w (unpacked w n b) = b := by
  have hl2 : (packed w (unpacked w n b)).length = b.length := by rw [packed_len, unpacked_len, hl]
  refine bytes_ext hl2 ?_
  intro p hp
  rw [hl2] at hp
  by_cases hlt : p < w * n
  · rw [packed_bit (by rw [unpacked_len]; exact hlt)]
    have hw : 0 < w := by
      rcases Nat.eq_zero_or_pos w with e | e
      · rw [e, Nat.zero_mul] at hlt; omega
      · exact e
    have hm : p % w < w := Nat.mod_lt _ hw
    have hd : p / w < n := Nat.div_lt_of_lt_mul hlt
    have e : w * (p / w) + p % w = p := Nat.div_add_mod p w
    unfold pbit
    have e2 : (unpacked w n b).getD (p / w) 0 = unum w b (w * n) (p / w) := by
      unfold unpacked
      rw [List.getD_eq_getElem?_getD, unums_at hd]
      rfl
    rw [e2, unum_bit, decide_eq_true hm, e, decide_eq_true hlt]
    rfl
  · rw [(leftN_iff (by rw [hl]; rfl)).1 h p (by omega) hp]
    unfold packed
    rw [pbys_bit (by rw [unpacked_len, ← hl]; exact hp), unpacked_len, decide_eq_false hlt]
    rfl

/-- Bits, Unbits, of whatever numbers. -/
def bitsZ (l : List Nat) (w : Int) : List UInt8 := if 0 ≤ w ∧ w ≤ 64 then packed w.toNat l else []
def unbitsZ (b : List UInt8) (w n : Int) : List Nat × Int :=
  if w < 0 ∨ 64 < w ∨ n < 0 ∨ 1048576 < n then ([], 1)
  else if b.length ≠ psz w.toNat n.toNat ∨ leftN b (w.toNat * n.toNat) ≠ 0 then ([], 20) else (unpacked w.toNat n.toNat b, 0)
end Go.Proofs.Ythlbfnoahdjdeaa
namespace Go.Proofs.Ythlbfnoahdjdeaa
set_option linter.unusedVariables false
set_option linter.unusedSimpArgs false
open Go.RowKit

def zN (l : List Nat) : List Int := l.map fun (n : Nat) => (n : Int)
def nz (l : List Nat) : List Value := iz .u64 (zN l)
theorem zN_len (l : List Nat) : (zN l).length = l.length := by simp [zN]
theorem nz_len (l : List Nat) : (nz l).length = l.length := by simp [nz, iz, zN]
theorem nz_append (l m : List Nat) : nz (l ++ m) = nz l ++ nz m := by simp [nz, iz, zN]
theorem nz_take (l : List Nat) (n : Nat) : nz (l.take n) = (nz l).take n := by simp [nz, iz, zN, List.map_take]
theorem nz_one (l : List Nat) : ∀ u ∈ nz l, u.oneCell' = true := iz_one _ _
theorem nz_at (l : List Nat) {j : Nat} (h : j < l.length) : (nz l)[j]? = some (.int .u64 (l.getD j 0 : Nat)) := by simp [nz, iz, zN, h]
theorem nz_set (l : List Nat) (i : Nat) (v : Nat) : (nz l).set i (.int .u64 (v : Nat)) = nz (l.set i v) := by simp [nz, iz, zN, List.map_set]
theorem nz_rep (n : Nat) : nz (List.replicate n 0) = List.replicate n (.int .u64 0) := by simp [nz, iz, zN]
theorem zN_inj {l m : List Nat} (h : zN l = zN m) : l = m := by
  unfold zN at h
  exact List.map_inj_right (fun x y hxy => by omega) |>.1 h
theorem zN_eq (l m : List Nat) : (zN l = zN m) = (l = m) := propext ⟨zN_inj, fun h => by rw [h]⟩
theorem zN_of {l : List Int} (h : ∀ z ∈ l, 0 ≤ z) : zN (l.map Int.toNat) = l := by
  unfold zN
  rw [List.map_map]
  conv => rhs; rw [← List.map_id l]
  apply List.map_congr_left
  intro x hx
  have := h x hx
  simp
  omega
theorem Rd.natAt {w : World} {B : Nat} {A : Option Addr} {l : List Nat} (h : Rd w B A (nz l)) {j : Nat} (hj : j < l.length) : ∃ ad, A = some ad ∧ ad.block < B ∧ w.cell? (ad.add j) = some (.int .u64 (l.getD j 0 : Nat)) :=
  h j _ (nz_at l hj)
theorem In64.at {l : List Nat} (h : In64 l) (j : Nat) : l.getD j 0 < 18446744073709551616 := by
  by_cases hj : j < l.length
  · have : l.getD j 0 = l[j] := by simp [List.getElem?_eq_getElem hj]
    rw [this]
    exact h _ (List.getElem_mem hj)
  · have : l.getD j 0 = 0 := by simp [List.getElem?_eq_none (Nat.le_of_not_lt hj)]
    omega
theorem take_snocN {l : List Nat} {k : Nat} (h : k < l.length) : l.take (k + 1) = l.take k ++ [l.getD k 0] := by
  rw [List.take_succ_eq_append_getElem h]
  simp [List.getElem?_eq_getElem h]
theorem orL_take {l : List Nat} (h : In64 l) (k : Nat) : orL (l.take k) < 18446744073709551616 := orL_64 fun u hu => h u (List.mem_of_mem_take hu)
theorem wid_take {l : List Nat} (h : In64 l) (k : Nat) : wid (l.take k) ≤ 64 := wid_64 fun u hu => h u (List.mem_of_mem_take hu)
end Go.Proofs.Ythlbfnoahdjdeaa
namespace Go.Proofs.Ythlbfnoahdjdeaa
set_option linter.unusedVariables false
set_option linter.unusedSimpArgs false
open Go.RowKit

set_option maxRecDepth 100000 in
set_option maxHeartbeats 400000 in
theorem clone_any (A : Option Addr) (n c B : Nat) (bs : List UInt8) (w : World) (hl : bs.length = n) (hn : n ≤ c) (hc : c ≤ maxLen) (hb : n ≤ 140737488355328) (hB : B ≤ w.heap.size) (hr : Rd w B A (by8 bs)) :
    Calls Try.prog 72 #[.slice A n c] w (GivesB w bs) := by
  have HR := hide hr; clear hr
  have HL := hide hl; clear hl
  obtain ⟨i0, hi, hz, hsz, hby⟩ := info_parts Try.info5
  cases A with
  | none =>
    have he := fun W => Lib.run_eql_slice_nil (P := Try.prog) W 25 5 none n c 0 0 Try.underlying25
    go_enter Try.func72, Try.ntmps72
    go_wp2
    go_ret
    have h0 := HR.out.len0
    subst h0
    exact ⟨_, rfl, Own.nil _ _ _ _, Fr.refl _ _⟩
  | some ad =>
    have he := fun W => Lib.run_eql_slice_nil (P := Try.prog) W 25 5 (some ad) n c 0 0 Try.underlying25
    have HS := hide (Src.ofRd (P := Try.prog) (size := 1) (w.alloc (.cells #[] 5)) Try.underlying25 (some ad) n c (by8 bs) (by rw [by8_length, HL.out]; omega) (by omega) (HR.out.fr0 ((Fr.refl _ _).alloc _)) (by8_one _))
    go_enter Try.func72, Try.ntmps72
    have b1 : (0 + n) * 1 ≤ 140737488355328 := by omega
    have b2 : 0 + n ≤ maxLen := by unfold maxLen at *; omega
    have b3 : w.heap.size ≤ (w.alloc (.cells #[] 5)).heap.size := by simp
    go_wp2_with (at_builtin; (refine wpList_append_gen _ rfl (.tmp 5) (.tmp 6) 25 25 rfl w.heap.size 5 i0 (.int .u8 0) 1 1 Try.underlying25 hi hz hsz hby rfl _ 0 [] rfl (own_empty w 5) _ n (by8 bs) rfl HS.out b1 b2 b3 ?_); intro v' w' hown hfr hat)
    go_ret
    refine ⟨v', rfl, by simpa [HL.out] using hown, ?_⟩
    exact ((Fr.refl No w).alloc _).own hfr (fun g h => .inl (Nat.le_of_eq (Option.some.inj h)))

set_option maxRecDepth 100000 in
set_option maxHeartbeats 400000 in
theorem clip_any (A : Option Addr) (n c : Nat) (w : World) (hn : n ≤ c) (hc : c ≤ maxLen) :
    Calls Try.prog 44 #[.slice A n c] w (Ret (.slice A n n) w) := by
  unfold maxLen at hc
  go_enter Try.func44, Try.ntmps44
  go_wp2
  go_ret
  exact ⟨by simp, rfl⟩

end Go.Proofs.Ythlbfnoahdjdeaa
namespace Go.Proofs.Ythlbfnoahdjdeaa
set_option linter.unusedVariables false
set_option linter.unusedSimpArgs false
open Go.RowKit

/-- a reader: bytes, the place in them, the error. -/
def RD (w : World) (g : Nat) (bs : List UInt8) (at_ : Nat) (e : Int) : Prop :=
  ∃ A c, w.heap[g]? = some (.cells #[.slice A bs.length c, .int .i64 at_, .int .i64 e] 111 (0, 0)) ∧ bs.length ≤ c ∧ c ≤ maxLen ∧ at_ ≤ bs.length ∧ bs.length ≤ 140737488355328 ∧
    Own w 0 5 1 (.slice A bs.length c) bs.length (by8 bs)

theorem RD.parts {w : World} {g : Nat} {bs : List UInt8} {at_ : Nat} {e : Int} (h : RD w g bs at_ e) :
    ∃ A c, (w.cell? ⟨g, 0, none⟩ = some (.slice A bs.length c) ∧ w.cell? ⟨g, 1, none⟩ = some (.int .i64 at_) ∧ w.cell? ⟨g, 2, none⟩ = some (.int .i64 e)) ∧ (∀ i, w.frozen? ⟨g, i, none⟩ = false) ∧
      bs.length ≤ c ∧ c ≤ maxLen ∧ at_ ≤ bs.length ∧ bs.length ≤ 140737488355328 ∧ Rd w w.heap.size A (by8 bs) := by
  obtain ⟨A, c, hh, h1, h2, h3, h4, ho⟩ := h
  exact ⟨A, c, ⟨cell_of_row w g 0 _ _ (0, 0) hh, cell_of_row w g 1 _ _ (0, 0) hh, cell_of_row w g 2 _ _ (0, 0) hh⟩, fun i => by simp [World.frozen?, hh], h1, h2, h3, h4, ho.rd⟩

theorem RD.set1 {w : World} {g : Nat} {bs : List UInt8} {at_ : Nat} {e : Int} (h : RD w g bs at_ e) (k : Nat) (hk : k ≤ bs.length) : RD (w.setCell ⟨g, 1, none⟩ (.int .i64 k)) g bs k e := by
  obtain ⟨A, c, hh, h1, h2, h3, h4, ho⟩ := h
  refine ⟨A, c, by simp [World.setCell, Array.getElem?_modify, hh], h1, h2, hk, h4, ho.fr ((Fr.refl (Is g) w).setCell (p := ⟨g, 1, none⟩) (fun _ => rfl) _) ?_⟩
  rintro g' hg' rfl
  exact ho.ne_blk hg' hh (by decide)

theorem RD.set2 {w : World} {g : Nat} {bs : List UInt8} {at_ : Nat} {e : Int} (h : RD w g bs at_ e) (k : Int) : RD (w.setCell ⟨g, 2, none⟩ (.int .i64 k)) g bs at_ k := by
  obtain ⟨A, c, hh, h1, h2, h3, h4, ho⟩ := h
  refine ⟨A, c, by simp [World.setCell, Array.getElem?_modify, hh], h1, h2, h3, h4, ho.fr ((Fr.refl (Is g) w).setCell (p := ⟨g, 2, none⟩) (fun _ => rfl) _) ?_⟩
  rintro g' hg' rfl
  exact ho.ne_blk hg' hh (by decide)

theorem RD.drewN {w : World} {g : Nat} {bs : List UInt8} {at_ : Nat} {e : Int} (h : RD w g bs at_ e) (n : Nat) : RD (w.drewN n) g bs at_ e := h

theorem RD.fr0 {w w' : World} {g : Nat} {bs : List UInt8} {a : Nat} {e : Int} (h : RD w g bs a e) (f : Fr No w w') : RD w' g bs a e := by
  obtain ⟨A, c, hh, h1, h2, h3, h4, ho⟩ := h
  exact ⟨A, c, f.blk hh (fun h => h), h1, h2, h3, h4, ho.fr0 f⟩

theorem RD.lt {w : World} {g : Nat} {bs : List UInt8} {a : Nat} {e : Int} (h : RD w g bs a e) : g < w.heap.size := by
  obtain ⟨A, c, hh, _⟩ := h
  exact (Array.getElem?_eq_some_iff.1 hh).1

theorem RD.other {w w' : World} {g g2 : Nat} {bs bs2 : List UInt8} {a a2 : Nat} {e e2 : Int} (h : RD w g bs a e) (h2 : RD w g2 bs2 a2 e2) (f : Fr (Is g2) w w') (hne : g ≠ g2) : RD w' g bs a e := by
  obtain ⟨A, c, hh, h1, h2', h3, h4, ho⟩ := h
  obtain ⟨A2, c2, hh2, _⟩ := h2
  refine ⟨A, c, f.blk hh hne, h1, h2', h3, h4, ho.fr f ?_⟩
  rintro g' hg' rfl
  exact ho.ne_blk hg' hh2 (by decide)

theorem dec_le : ∀ (bs : List UInt8) (i acc u k : Nat), dec i acc bs = some (u, k) → i < k ∧ k ≤ i + bs.length
  | [], i, acc, u, k, h => by simp [dec] at h
  | b :: r, i, acc, u, k, h => by
    rw [dec] at h
    split at h
    · cases h
    · split at h
      · cases h
      · split at h
        · split at h
          · cases h
          · injection h with h; injection h with _ h; simp; omega
        · have := dec_le r _ _ u k h
          simp; omega

/-- what a reader's call leaves: value, place, error. -/
def RDRet (v : Value) (w : World) (g : Nat) (bs : List UInt8) (at_ : Nat) (e : Int) (en : Ending) (w' : World) : Prop := en = .returned v ∧ RD w' g bs at_ e ∧ Fr (Is g) w w'

/-- a new reader. -/
def GivesRD (w : World) (bs : List UInt8) (en : Ending) (w' : World) : Prop := ∃ g, en = .returned (.pointer (some ⟨g, 0, none⟩)) ∧ w.heap.size ≤ g ∧ RD w' g bs 0 0 ∧ Fr No w w'

set_option maxRecDepth 100000 in
set_option maxHeartbeats 400000 in
theorem newReader_any (A : Option Addr) (n c B : Nat) (bs : List UInt8) (w : World) (hl : bs.length = n) (hn : n ≤ c) (hc : c ≤ maxLen) (hb : n ≤ 140737488355328) (hB : B ≤ w.heap.size) (hr : Rd w B A (by8 bs)) :
    Calls Try.prog 49 #[.slice A n c] w (GivesRD w bs) := by
  have H := hide (clone_any A n c B bs w hl hn hc hb hB hr)
  have HL := hide hl
  clear hr hl
  go_enter Try.func49, Try.ntmps49
  go_wp2_with (go_at_call 72; refine H.out.mono ?_; rintro en w' ⟨v, rfl, hown, hfr⟩; obtain ⟨A', c', rfl, hq1, hq2, hq3, hq4⟩ := hown.form; have HO := hide hown; have HF := hide hfr; clear hown hfr hq3 hq4)
  go_ret
  refine ⟨w'.heap.size, rfl, HF.out.size, ⟨A', c', heap_alloc_new w' _, hq1, hq2, Nat.zero_le _, by rw [HL.out]; exact hb, ?_⟩, HF.out.alloc _⟩
  exact (HO.out.lower (Nat.zero_le _)).fr0 ((Fr.refl _ _).alloc _)

set_option maxRecDepth 100000 in
set_option maxHeartbeats 400000 in
theorem left_any (g : Nat) (bs : List UInt8) (a : Nat) (e : Int) (w : World) (h : RD w g bs a e) :
    Calls Try.prog 81 #[.pointer (some ⟨g, 0, none⟩)] w (RetQ (.int .i64 ((bs.length - a : Nat) : Int)) w) := by
  obtain ⟨A, c, ⟨c0, c1, c2⟩, hf, h1, h2, h3, h4, hr⟩ := h.parts
  have hx : ((bs.length - a : Nat) : Int) = (bs.length : Int) - a := by omega
  have HX := hide hx
  clear h hr hx
  generalize bs.length = n at *
  go_enter Try.func81, Try.ntmps81
  go_wp2
  go_quiet (fail)
  go_wp2
  go_ret
  exact ⟨by rw [HX.out]; rfl, _, rfl⟩

set_option maxRecDepth 100000 in
set_option maxHeartbeats 400000 in
theorem left_nil (w : World) : Calls Try.prog 81 #[.pointer none] w (Ret (.int .i64 0) w) := by
  go_enter Try.func81, Try.ntmps81
  go_wp2
  go_ret
  exact ⟨rfl, rfl⟩

set_option maxRecDepth 100000 in
set_option maxHeartbeats 400000 in
theorem err_any (g : Nat) (bs : List UInt8) (a : Nat) (e : Int) (w : World) (h : RD w g bs a e) :
    Calls Try.prog 53 #[.pointer (some ⟨g, 0, none⟩)] w (Ret (.int .i64 e) w) := by
  obtain ⟨A, c, ⟨c0, c1, c2⟩, hf, h1, h2, h3, h4, hr⟩ := h.parts
  clear h hr
  go_enter Try.func53, Try.ntmps53
  go_wp2
  go_ret
  exact ⟨rfl, rfl⟩

set_option maxRecDepth 100000 in
set_option maxHeartbeats 400000 in
theorem err_nil (w : World) : Calls Try.prog 53 #[.pointer none] w (Ret (.int .i64 20) w) := by
  go_enter Try.func53, Try.ntmps53
  go_wp2
  go_ret
  exact ⟨rfl, rfl⟩

def endE (bs : List UInt8) (a : Nat) (e : Int) : Int := if e = 0 ∧ a < bs.length then 20 else e

/-- where a reader's bytes lie: from M on. -/
def Up0 (w : World) (g M : Nat) : Prop := ∀ A n c, w.cell? ⟨g, 0, none⟩ = some (.slice A n c) → ∀ k, (Value.slice A n c).ownBlock = some k → M ≤ k

def GivesRU (w : World) (bs : List UInt8) (en : Ending) (w' : World) : Prop := ∃ g, en = .returned (.pointer (some ⟨g, 0, none⟩)) ∧ w.heap.size ≤ g ∧ RD w' g bs 0 0 ∧ Fr No w w' ∧ Up0 w' g w.heap.size

theorem RD.below {S : Nat → Prop} {w w' : World} {g M : Nat} {bs : List UInt8} {a : Nat} {e : Int} (h : RD w g bs a e) (h0 : Up0 w g M) (hg : M ≤ g) (f : Fr S w w') (hS : ∀ k, M ≤ k → ¬ S k) : RD w' g bs a e := by
  obtain ⟨A, c, hh, h1, h2', h3, h4, ho⟩ := h
  refine ⟨A, c, f.blk hh (hS g hg), h1, h2', h3, h4, ho.fr f ?_⟩
  intro k hk
  exact hS k (h0 A bs.length c (by rw [cell_of_row w g 0 _ _ (0, 0) hh]; rfl) k hk)

theorem Up0.fr0 {w w' : World} {g M : Nat} {bs : List UInt8} {a : Nat} {e : Int} (h : Up0 w g M) (r : RD w g bs a e) (f : Fr No w w') : Up0 w' g M := by
  intro A n c hc k hk
  obtain ⟨_, _, ⟨z, _⟩, _⟩ := r.parts
  have := f.cell (p := ⟨g, 0, none⟩) z (fun h => h)
  rw [this] at hc
  exact h A n c (by rw [z, hc]) k hk

set_option maxRecDepth 100000 in
set_option maxHeartbeats 400000 in
theorem newReader_up (A : Option Addr) (n c B : Nat) (bs : List UInt8) (w : World) (hl : bs.length = n) (hn : n ≤ c) (hc : c ≤ maxLen) (hb : n ≤ 140737488355328) (hB : B ≤ w.heap.size) (hr : Rd w B A (by8 bs)) :
    Calls Try.prog 49 #[.slice A n c] w (GivesRU w bs) := by
  have H := hide (clone_any A n c B bs w hl hn hc hb hB hr)
  have HL := hide hl
  clear hr hl
  go_enter Try.func49, Try.ntmps49
  go_wp2_with (go_at_call 72; refine H.out.mono ?_; rintro en w' ⟨v, rfl, hown, hfr⟩; obtain ⟨A', c', rfl, hq1, hq2, hq3, hq4⟩ := hown.form; have HO := hide hown; have HF := hide hfr; clear hown hfr hq3 hq4)
  go_ret
  refine ⟨w'.heap.size, rfl, HF.out.size, ⟨A', c', heap_alloc_new w' _, hq1, hq2, Nat.zero_le _, by rw [HL.out]; exact hb, ?_⟩, HF.out.alloc _, ?_⟩
  · exact (HO.out.lower (Nat.zero_le _)).fr0 ((Fr.refl _ _).alloc _)
  · intro A2 n2 c2 hc2 k hk
    rw [cell_of_row _ w'.heap.size 0 _ _ (0, 0) (heap_alloc_new w' _)] at hc2
    have : Value.slice A' bs.length c' = .slice A2 n2 c2 := by simpa using hc2
    rw [← this] at hk
    exact (HO.out.lt k hk).1

end Go.Proofs.Ythlbfnoahdjdeaa
namespace Go.Proofs.Ythlbfnoahdjdeaa
set_option linter.unusedVariables false
set_option linter.unusedSimpArgs false
open Go.RowKit

/-- signed numbers of 64 bits. -/
def InI (l : List Int) : Prop := ∀ x ∈ l, -9223372036854775808 ≤ x ∧ x ≤ 9223372036854775807
theorem InI.take {l : List Int} (h : InI l) (k : Nat) : InI (l.take k) := fun x hx => h x (List.mem_of_mem_take hx)
theorem InI.drop {l : List Int} (h : InI l) (k : Nat) : InI (l.drop k) := fun x hx => h x (List.mem_of_mem_drop hx)
def minL : List Int → Int
  | [] => 0
  | x :: r => r.foldl min x
theorem minF (r : List Int) (a : Int) : r.foldl min a ≤ a ∧ (∀ x ∈ r, r.foldl min a ≤ x) ∧ (r.foldl min a = a ∨ r.foldl min a ∈ r) := by
  induction r generalizing a with
  | nil => simp
  | cons y r ih =>
    rw [List.foldl_cons]
    obtain ⟨h1, h2, h3⟩ := ih (min a y)
    refine ⟨by omega, ?_, ?_⟩
    · intro x hx
      rcases List.mem_cons.1 hx with rfl | hx
      · omega
      · exact h2 x hx
    · rcases h3 with h3 | h3
      · rcases Int.le_total a y with h | h
        · left; omega
        · right; rw [h3, Int.min_eq_right h]; exact List.mem_cons_self ..
      · exact .inr (List.mem_cons_of_mem _ h3)
theorem minL_le {l : List Int} : ∀ x ∈ l, minL l ≤ x := by
  cases l with
  | nil => intro x hx; cases hx
  | cons y r =>
    intro x hx
    rcases List.mem_cons.1 hx with rfl | hx
    · exact (minF r _).1
    · exact (minF r y).2.1 x hx
theorem minL_mem {l : List Int} (h : l ≠ []) : minL l ∈ l := by
  cases l with
  | nil => exact absurd rfl h
  | cons y r =>
    rcases (minF r y).2.2 with h | h
    · rw [show minL (y :: r) = y from h]; exact List.mem_cons_self ..
    · exact List.mem_cons_of_mem _ h
theorem minL_is {l : List Int} {m : Int} (h : m ∈ l) (h2 : ∀ x ∈ l, m ≤ x) : minL l = m := by
  have h3 := minL_le m h
  have h4 := h2 _ (minL_mem (List.ne_nil_of_mem h))
  omega
theorem minL_in {l : List Int} (h : InI l) : -9223372036854775808 ≤ minL l ∧ minL l ≤ 9223372036854775807 := by
  by_cases hl : l = []
  · subst hl; decide
  · exact h _ (minL_mem hl)
theorem minL_snoc {l : List Int} (h : l ≠ []) (x : Int) : minL (l ++ [x]) = min (minL l) x := by
  cases l with
  | nil => exact absurd rfl h
  | cons y r => simp [minL, List.foldl_append]

/-- a block's numbers above its least. -/
def aboveL (l : List Int) : List Nat := l.map fun x => (x - minL l).toNat
theorem aboveL_len (l : List Int) : (aboveL l).length = l.length := by simp [aboveL]
theorem aboveL_64 {l : List Int} (h : InI l) : In64 (aboveL l) := by
  intro u hu
  obtain ⟨x, hx, rfl⟩ := List.mem_map.1 hu
  have h1 := h x hx
  have h2 := minL_in h
  omega
theorem aboveL_0 {l : List Int} (h : l ≠ []) : 0 ∈ aboveL l := List.mem_map.2 ⟨_, minL_mem h, by omega⟩
theorem above_back (l : List Int) : (aboveL l).map (fun (u : Nat) => minL l + (u : Int)) = l := by
  unfold aboveL
  rw [List.map_map]
  conv => rhs; rw [← List.map_id l]
  apply List.map_congr_left
  intro x hx
  have := minL_le x hx
  simp
  omega
theorem above_of {le : Int} {ab : List Nat} (h0 : 0 ∈ ab) : minL (ab.map fun (u : Nat) => le + (u : Int)) = le ∧ aboveL (ab.map fun (u : Nat) => le + (u : Int)) = ab := by
  have hm : minL (ab.map fun (u : Nat) => le + (u : Int)) = le := by
    refine minL_is (List.mem_map.2 ⟨0, h0, by omega⟩) ?_
    intro x hx
    obtain ⟨u, _, rfl⟩ := List.mem_map.1 hx
    omega
  refine ⟨hm, ?_⟩
  unfold aboveL
  rw [hm, List.map_map]
  conv => rhs; rw [← List.map_id ab]
  apply List.map_congr_left
  intro u hu
  simp
  omega
/-- a block's form. -/
def oneB (l : List Int) : List UInt8 := enc (zz (minL l)) ++ [UInt8.ofNat (wid (aboveL l))] ++ packed (wid (aboveL l)) (aboveL l)
theorem oneB_len (l : List Int) : (oneB l).length = (enc (zz (minL l))).length + 1 + psz (wid (aboveL l)) l.length := by
  simp [oneB, packed_len, aboveL_len]
  omega

/-- a block's bytes, read: its least number, the width, the numbers above, how many bytes. -/
def parseB (bs : List UInt8) (k : Nat) : Option (Int × Nat × List Nat × Nat) :=
  match dec 0 0 bs with
  | none => none
  | some (u, j) =>
    if j < bs.length then
      if (bs.getD j 0).toNat ≤ 64 then
        if j + 1 + psz (bs.getD j 0).toNat k ≤ bs.length then
          if leftN ((bs.drop (j + 1)).take (psz (bs.getD j 0).toNat k)) ((bs.getD j 0).toNat * k) = 0 then
            some (unzz u, (bs.getD j 0).toNat, unpacked (bs.getD j 0).toNat k ((bs.drop (j + 1)).take (psz (bs.getD j 0).toNat k)), j + 1 + psz (bs.getD j 0).toNat k)
          else none
        else none
      else none
    else none
/-- the block's numbers, where the block is the form of its numbers. -/
def blkOk (le : Int) (w : Nat) (ab : List Nat) : Prop := wid ab = w ∧ 0 ∈ ab ∧ ∀ u ∈ ab, le + (u : Int) ≤ 9223372036854775807
instance (le : Int) (w : Nat) (ab : List Nat) : Decidable (blkOk le w ab) := by unfold blkOk; infer_instance
def blkB (bs : List UInt8) (k : Nat) : Option (List Int × Nat) :=
  match parseB bs k with
  | none => none
  | some (le, w, ab, m) => if blkOk le w ab then some (ab.map (fun (u : Nat) => le + (u : Int)), m) else none

theorem parse_one {l : List Int} (hl : l ≠ []) (hi : InI l) (rest : List UInt8) : parseB (oneB l ++ rest) l.length = some (minL l, wid (aboveL l), aboveL l, (oneB l).length) := by
  have hz := zz_lt (minL_in hi).1 (minL_in hi).2
  have hw := wid_64 (aboveL_64 hi)
  have e : oneB l ++ rest = enc (zz (minL l)) ++ (UInt8.ofNat (wid (aboveL l)) :: (packed (wid (aboveL l)) (aboveL l) ++ rest)) := by simp [oneB]
  have hlen : (oneB l ++ rest).length = (enc (zz (minL l))).length + 1 + psz (wid (aboveL l)) l.length + rest.length := by rw [List.length_append, oneB_len]
  unfold parseB
  rw [e, dec_enc _ hz]
  rw [← e]
  have hg : (oneB l ++ rest).getD (enc (zz (minL l))).length 0 = UInt8.ofNat (wid (aboveL l)) := by rw [e]; simp
  have hd : (oneB l ++ rest).drop ((enc (zz (minL l))).length + 1) = packed (wid (aboveL l)) (aboveL l) ++ rest := by
    rw [e, ← List.drop_drop]
    simp
  have ht : (packed (wid (aboveL l)) (aboveL l) ++ rest).take (psz (wid (aboveL l)) l.length) = packed (wid (aboveL l)) (aboveL l) := by
    have : psz (wid (aboveL l)) l.length = (packed (wid (aboveL l)) (aboveL l)).length := by rw [packed_len, aboveL_len]
    rw [this, List.take_left]
  dsimp only
  rw [hg, ofNat_toNat (by omega), hd, ht, if_pos (by omega), if_pos hw, if_pos (by omega)]
  have hp := packed_left (wid (aboveL l)) (aboveL l)
  have hu := unpack_pack (wid_lt (aboveL_64 hi))
  rw [aboveL_len] at hp hu
  rw [if_pos hp, hu, unzz_zz, oneB_len]
theorem parse_parts {bs : List UInt8} {k : Nat} {le : Int} {w : Nat} {ab : List Nat} {m : Nat} (h : parseB bs k = some (le, w, ab, m)) :
    ab.length = k ∧ m ≤ bs.length ∧ w ≤ 64 ∧ In64 ab ∧ (-9223372036854775808 ≤ le ∧ le ≤ 9223372036854775807) ∧ 2 ≤ m ∧ enc (zz le) ++ [UInt8.ofNat w] ++ packed w ab = bs.take m := by
  unfold parseB at h
  split at h
  · cases h
  · rename_i u j hd
    split at h
    · rename_i h1
      split at h
      · rename_i h2
        split at h
        · rename_i h3
          split at h
          · rename_i h4
            injection h with h
            simp only [Prod.mk.injEq] at h
            obtain ⟨rfl, rfl, rfl, rfl⟩ := h
            have hj := dec_le _ _ _ _ _ hd
            have hu := dec_lt _ 0 0 u j (by decide) hd
            have he := enc_dec hd
            have hl : ((bs.drop (j + 1)).take (psz (bs.getD j 0).toNat k)).length = psz (bs.getD j 0).toNat k := by rw [List.length_take, List.length_drop]; omega
            refine ⟨unpacked_len _ _ _, h3, h2, unpacked_64 h2, unzz_bd hu, by omega, ?_⟩
            rw [zz_unzz, he, pack_unpack hl h4]
            have e1 : UInt8.ofNat (bs.getD j 0).toNat = bs.getD j 0 := UInt8.ofNat_toNat
            rw [e1, List.take_add, List.take_add]
            congr 2
            have e2 : bs.drop j = bs[j] :: bs.drop (j + 1) := List.drop_eq_getElem_cons h1
            rw [e2, List.getD_eq_getElem?_getD, List.getElem?_eq_getElem h1]
            rfl
          · cases h
        · cases h
      · cases h
    · cases h
theorem blk_parts {bs : List UInt8} {k : Nat} {x : List Int} {m : Nat} (h : blkB bs k = some (x, m)) : x.length = k ∧ InI x ∧ oneB x = bs.take m ∧ m ≤ bs.length ∧ 2 ≤ m := by
  unfold blkB at h
  split at h
  · cases h
  · rename_i le w ab m' hp
    split at h
    · rename_i hok
      injection h with h
      simp only [Prod.mk.injEq] at h
      obtain ⟨rfl, rfl⟩ := h
      obtain ⟨h1, h2, h3, h4, h5, h6, h7⟩ := parse_parts hp
      obtain ⟨q1, q2, q3⟩ := hok
      refine ⟨by rw [List.length_map, h1], ?_, ?_, h2, h6⟩
      · intro y hy
        obtain ⟨u, hu, rfl⟩ := List.mem_map.1 hy
        have := q3 u hu
        omega
      · obtain ⟨a1, a2⟩ := above_of (le := le) q2
        unfold oneB
        rw [a1, a2, q1, h7]
    · cases h
theorem one_ok {l : List Int} (hl : l ≠ []) (hi : InI l) : blkOk (minL l) (wid (aboveL l)) (aboveL l) := by
  refine ⟨rfl, aboveL_0 hl, ?_⟩
  intro u hu
  obtain ⟨x, hx, rfl⟩ := List.mem_map.1 hu
  have := minL_le x hx
  have := hi x hx
  omega
theorem blk_one {l : List Int} (hl : l ≠ []) (hi : InI l) (rest : List UInt8) : blkB (oneB l ++ rest) l.length = some (l, (oneB l).length) := by
  unfold blkB
  rw [parse_one hl hi]
  dsimp only
  rw [if_pos (one_ok hl hi), above_back]
theorem oneB_ge2 {l : List Int} : 2 ≤ (oneB l).length := by
  have := (encF_len 9 (zz (minL l))).1
  rw [oneB_len]
  unfold enc
  omega
/-- the reference's way: the numbers are put once more and held against the bytes. -/
theorem ref_ok {bs : List UInt8} {k : Nat} {le : Int} {w : Nat} {ab : List Nat} {m : Nat} (hk : 1 ≤ k) (h : parseB bs k = some (le, w, ab, m)) : oneB (ab.map fun (u : Nat) => wrap64 (le + (u : Int))) = bs.take m ↔ blkOk le w ab := by
  obtain ⟨h1, h2, h3, h4, h5, h6, h7⟩ := parse_parts h
  constructor
  · intro he
    have hne : (ab.map fun (u : Nat) => wrap64 (le + (u : Int))) ≠ [] := by
      intro e
      have := congrArg List.length e
      simp [h1] at this
      omega
    have hin : InI (ab.map fun (u : Nat) => wrap64 (le + (u : Int))) := by
      intro y hy
      obtain ⟨u, _, rfl⟩ := List.mem_map.1 hy
      unfold wrap64
      omega
    have hp := parse_one hne hin (bs.drop m)
    rw [he, List.take_append_drop, List.length_map, h1, h] at hp
    injection hp with hp
    simp only [Prod.mk.injEq] at hp
    obtain ⟨a1, a2, a3, a4⟩ := hp
    have hok := one_ok hne hin
    rw [← a1, ← a2, ← a3] at hok
    exact hok
  · rintro ⟨q1, q2, q3⟩
    have e : (ab.map fun (u : Nat) => wrap64 (le + (u : Int))) = ab.map fun (u : Nat) => le + (u : Int) := by
      apply List.map_congr_left
      intro u hu
      have := q3 u hu
      rw [IntWalk.wrap64_in _ (by omega)]
    rw [e]
    obtain ⟨a1, a2⟩ := above_of (le := le) q2
    unfold oneB
    rw [a1, a2, q1, h7]

/-! Rows. -/
def chunkL (l : List Int) (j : Nat) : List Int := (l.drop (128 * j)).take 128
def putUp (l : List Int) (i : Nat) : List UInt8 := (List.range i).flatMap fun j => oneB (chunkL l j)
theorem putUp_succ (l : List Int) (i : Nat) : putUp l (i + 1) = putUp l i ++ oneB (chunkL l i) := by simp [putUp, List.range_succ, List.flatMap_append]
def chunks (n : Nat) : Nat := (n + 127) / 128
def putR (l : List Int) : List UInt8 := putUp l (chunks l.length)
theorem putUp_tail (l : List Int) (i : Nat) : putUp l (i + 1) = oneB (l.take 128) ++ putUp (l.drop 128) i := by
  unfold putUp
  rw [List.range_succ_eq_map, List.flatMap_cons, List.flatMap_map]
  have e : ∀ j, chunkL l (j + 1) = chunkL (l.drop 128) j := fun j => by
    unfold chunkL
    rw [List.drop_drop, show 128 * (j + 1) = 128 + 128 * j by omega]
  have e0 : chunkL l 0 = l.take 128 := by simp [chunkL]
  rw [e0]
  congr 1
  congr 1
  funext j
  exact congrArg oneB (e j)
theorem putR_nil : putR [] = [] := rfl
theorem putR_cons {l : List Int} (h : l ≠ []) : putR l = oneB (l.take 128) ++ putR (l.drop 128) := by
  have hl : 0 < l.length := List.length_pos_iff.2 h
  unfold putR
  have e : chunks l.length = chunks (l.drop 128).length + 1 := by
    simp [chunks]
    omega
  rw [e, putUp_tail]

/-- n numbers, read from place a on. -/
def getF : Nat → List UInt8 → Nat → Nat → Option (List Int × Nat)
  | 0, b, a, n => if n = 0 then some ([], a) else none
  | f + 1, b, a, n => if n = 0 then some ([], a) else
    match blkB (b.drop a) (min n 128) with
    | none => none
    | some (x, m) => (getF f b (a + m) (n - min n 128)).map fun r => (x ++ r.1, r.2)
theorem getF_fuel : ∀ (f g : Nat) (b : List UInt8) (a n : Nat), n ≤ f → n ≤ g → getF f b a n = getF g b a n
  | 0, 0, b, a, n, _, _ => rfl
  | 0, g + 1, b, a, n, h, _ => by
    have : n = 0 := by omega
    simp [getF, this]
  | f + 1, 0, b, a, n, _, h => by
    have : n = 0 := by omega
    simp [getF, this]
  | f + 1, g + 1, b, a, n, h1, h2 => by
    rw [getF, getF]
    by_cases h0 : n = 0
    · rw [if_pos h0, if_pos h0]
    · rw [if_neg h0, if_neg h0]
      cases blkB (b.drop a) (min n 128) with
      | none => rfl
      | some r =>
        dsimp only
        rw [getF_fuel f g b (a + r.2) (n - min n 128) (by omega) (by omega)]
theorem getF_put : ∀ (f : Nat) (l : List Int) (pre rest : List UInt8), l.length ≤ f → InI l → getF f (pre ++ putR l ++ rest) pre.length l.length = some (l, pre.length + (putR l).length)
  | 0, l, pre, rest, hf, hi => by
    have : l = [] := List.eq_nil_of_length_eq_zero (by omega)
    subst this
    simp [getF, putR_nil]
  | f + 1, l, pre, rest, hf, hi => by
    rw [getF]
    by_cases h0 : l = []
    · subst h0
      simp [putR_nil]
    · have hl : 0 < l.length := List.length_pos_iff.2 h0
      rw [if_neg (by omega), putR_cons h0]
      have hd : (pre ++ (oneB (l.take 128) ++ putR (l.drop 128)) ++ rest).drop pre.length = oneB (l.take 128) ++ (putR (l.drop 128) ++ rest) := by simp
      have hk : min l.length 128 = (l.take 128).length := by simp; omega
      have hne : l.take 128 ≠ [] := by
        intro e
        have := congrArg List.length e
        rw [← hk, List.length_nil] at this
        omega
      rw [hd, hk, blk_one hne (hi.take 128)]
      dsimp only
      have hr : l.length - (l.take 128).length = (l.drop 128).length := by simp; omega
      have e : pre ++ (oneB (l.take 128) ++ putR (l.drop 128)) ++ rest = (pre ++ oneB (l.take 128)) ++ putR (l.drop 128) ++ rest := by simp
      have ih := getF_put f (l.drop 128) (pre ++ oneB (l.take 128)) rest (by simp; omega) (hi.drop 128)
      rw [List.length_append] at ih
      rw [hr, e, ih]
      simp
      omega
theorem getF_parts : ∀ (f : Nat) (b : List UInt8) (a n : Nat) (x : List Int) (e : Nat), a ≤ b.length → getF f b a n = some (x, e) →
    x.length = n ∧ InI x ∧ a ≤ e ∧ e ≤ b.length ∧ b.take a ++ putR x = b.take e
  | 0, b, a, n, x, e, ha, h => by
    rw [getF] at h
    split at h
    · rename_i h0
      injection h with h
      simp only [Prod.mk.injEq] at h
      obtain ⟨rfl, rfl⟩ := h
      exact ⟨by simp [h0], (fun _ h => by cases h), Nat.le_refl _, ha, by simp [putR_nil]⟩
    · cases h
  | f + 1, b, a, n, x, e, ha, h => by
    rw [getF] at h
    split at h
    · rename_i h0
      injection h with h
      simp only [Prod.mk.injEq] at h
      obtain ⟨rfl, rfl⟩ := h
      exact ⟨by simp [h0], (fun _ h => by cases h), Nat.le_refl _, ha, by simp [putR_nil]⟩
    · rename_i h0
      split at h
      · cases h
      · rename_i x1 m hb
        obtain ⟨h1, h2, h3, h4, h5⟩ := blk_parts hb
        cases hg : getF f b (a + m) (n - min n 128) with
        | none => rw [hg] at h; cases h
        | some r =>
          obtain ⟨x2, e2⟩ := r
          rw [hg] at h
          injection h with h
          simp only [Prod.mk.injEq] at h
          obtain ⟨rfl, rfl⟩ := h
          rw [List.length_drop] at h4
          obtain ⟨g1, g2, g3, g4, g5⟩ := getF_parts f b (a + m) (n - min n 128) x2 e2 (by omega) hg
          have hne : x1 ++ x2 ≠ [] := by
            intro e
            have := congrArg List.length e
            simp [h1] at this
            omega
          refine ⟨by rw [List.length_append, h1, g1]; omega, ?_, by omega, g4, ?_⟩
          · intro y hy
            rcases List.mem_append.1 hy with hy | hy
            · exact h2 y hy
            · exact g2 y hy
          · rw [putR_cons hne]
            have ht : (x1 ++ x2).take 128 = x1 ∧ (x1 ++ x2).drop 128 = x2 := by
              by_cases h128 : n ≤ 128
              · have : x2 = [] := List.eq_nil_of_length_eq_zero (by omega)
                subst this
                have hx : x1.length ≤ 128 := by omega
                simp [List.take_of_length_le hx, List.drop_eq_nil_of_le hx]
              · have hx : x1.length = 128 := by omega
                constructor
                · rw [List.take_append_of_le_length (by omega), List.take_of_length_le (by omega)]
                · rw [List.drop_append_of_le_length (by omega), List.drop_eq_nil_of_le (by omega)]
                  rfl
            rw [ht.1, ht.2, ← g5, h3, List.take_add, List.append_assoc]
/-- Get's answer. -/
def getZ (b : List UInt8) (n : Int) : List Int × Nat × Int :=
  if n < 0 ∨ 1048576 < n then ([], 0, 1) else
    match getF n.toNat b 0 n.toNat with
    | none => ([], 0, 20)
    | some (x, e) => (x, e, 0)
theorem getZ_put {l : List Int} (hl : l.length ≤ 1048576) (hi : InI l) (rest : List UInt8) : getZ (putR l ++ rest) l.length = (l, (putR l).length, 0) := by
  unfold getZ
  rw [if_neg (by omega)]
  have h := getF_put l.length l [] rest (Nat.le_refl _) hi
  simp only [List.nil_append, List.length_nil, Nat.zero_add] at h
  simp only [Int.toNat_natCast, h]
theorem getZ_cases (b : List UInt8) (n : Int) :
    ((getZ b n).2.2 ≠ 0 ∧ (getZ b n).1 = [] ∧ (getZ b n).2.1 = 0 ∧ ((n < 0 ∨ 1048576 < n) ∧ (getZ b n).2.2 = 1 ∨ ¬ (n < 0 ∨ 1048576 < n) ∧ (getZ b n).2.2 = 20)) ∨
    ((getZ b n).2.2 = 0 ∧ ¬ (n < 0 ∨ 1048576 < n) ∧ ((getZ b n).1.length : Int) = n ∧ InI (getZ b n).1 ∧ (getZ b n).2.1 ≤ b.length ∧ putR (getZ b n).1 = b.take (getZ b n).2.1) := by
  unfold getZ
  by_cases h : n < 0 ∨ 1048576 < n
  · rw [if_pos h]
    exact .inl ⟨by decide, rfl, rfl, .inl ⟨h, rfl⟩⟩
  · rw [if_neg h]
    cases hg : getF n.toNat b 0 n.toNat with
    | none => exact .inl ⟨by decide, rfl, rfl, .inr ⟨h, rfl⟩⟩
    | some r =>
      obtain ⟨x, e⟩ := r
      obtain ⟨h1, h2, h3, h4, h5⟩ := getF_parts _ _ _ _ _ _ (Nat.zero_le _) hg
      refine .inr ⟨rfl, h, ?_, h2, h4, ?_⟩
      · dsimp only
        rw [h1]
        omega
      · simpa using h5
/-- cut short it is not read. -/
theorem getZ_short {b : List UInt8} {n : Int} (h : (getZ b n).2.2 = 0) {c : Nat} (hc : c < (getZ b n).2.1) : (getZ (b.take c) n).2.2 = 20 := by
  rcases getZ_cases b n with ⟨h1, _⟩ | ⟨_, h1, h2, h3, h4, h5⟩
  · exact absurd h h1
  · rcases getZ_cases (b.take c) n with ⟨q1, q2, q3, q4 | q4⟩ | ⟨q0, q1, q2, q3, q4, q5⟩
    · exact absurd q4.1 h1
    · exact q4.2
    · exfalso
      rw [List.length_take] at q4
      rw [List.take_take, Nat.min_eq_left (by omega)] at q5
      have e1 : b = putR (getZ (b.take c) n).1 ++ b.drop (getZ (b.take c) n).2.1 := by rw [q5, List.take_append_drop]
      have hl : (getZ (b.take c) n).1.length ≤ 1048576 := by omega
      have hz := getZ_put hl q3 (b.drop (getZ (b.take c) n).2.1)
      rw [← e1, q2] at hz
      rw [hz] at hc
      dsimp only at hc
      have := congrArg List.length q5
      rw [List.length_take] at this
      omega
end Go.Proofs.Ythlbfnoahdjdeaa
namespace Go.Proofs.Ythlbfnoahdjdeaa
set_option linter.unusedVariables false
set_option linter.unusedSimpArgs false
open Go.RowKit

/-! Size -/
def sizeR (bs : List UInt8) (most : Int) : Option (Nat × Nat) :=
  match dec 0 0 bs with
  | none => none
  | some (u, k) => if most < 0 ∨ most < (u : Int) then none else some (u, k)

def sizeV : Option (Nat × Nat) → Value
  | none => .tuple #[.int .i64 0, .int .i64 (-1)]
  | some (u, k) => .tuple #[.int .i64 u, .int .i64 k]

theorem sizeR_none {bs : List UInt8} {most : Int} (hd : dec 0 0 bs = none) : sizeR bs most = none := by unfold sizeR; rw [hd]

theorem sizeR_no {bs : List UInt8} {most : Int} {u k : Nat} (hd : dec 0 0 bs = some (u, k)) (h : most < 0 ∨ most < (u : Int)) : sizeR bs most = none := by
  unfold sizeR; rw [hd]; exact if_pos h

theorem sizeR_ok {bs : List UInt8} {most : Int} {u k : Nat} (hd : dec 0 0 bs = some (u, k)) (h : ¬ (most < 0 ∨ most < (u : Int))) : sizeR bs most = some (u, k) := by
  unfold sizeR; rw [hd]; exact if_neg h

def sizeS (bs : List UInt8) (a : Nat) (e most : Int) : Nat × Nat × Int :=
  if e = 0 then (match sizeR (bs.drop a) most with | none => (0, a, 20) | some (u, k) => (u, a + k, 0)) else (0, a, e)

theorem sizeR_le {bs : List UInt8} {most : Int} {u k : Nat} (h : sizeR bs most = some (u, k)) : k ≤ bs.length := by
  cases hd : dec 0 0 bs with
  | none => rw [sizeR_none hd] at h; cases h
  | some x =>
    obtain ⟨u', j⟩ := x
    have hk := dec_le _ _ _ _ _ hd
    by_cases hb : most < 0 ∨ most < (u' : Int)
    · rw [sizeR_no hd hb] at h; cases h
    · rw [sizeR_ok hd hb] at h
      injection h with h
      injection h with _ h
      omega

end Go.Proofs.Ythlbfnoahdjdeaa
namespace Go.Proofs.Ythlbfnoahdjdeaa
set_option linter.unusedVariables false
set_option linter.unusedSimpArgs false
open Go.RowKit

def bytesR (bs : List UInt8) (x : Int) : Option (List UInt8) := if x < 0 ∨ (bs.length : Int) < x then none else some (bs.take x.toNat)

def bytesS (bs : List UInt8) (a : Nat) (e x : Int) : List UInt8 × Nat × Int :=
  if e = 0 then (match bytesR (bs.drop a) x with | none => ([], a, 20) | some s => (s, a + x.toNat, 0)) else ([], a, e)

end Go.Proofs.Ythlbfnoahdjdeaa
namespace Go.Proofs.Ythlbfnoahdjdeaa
set_option linter.unusedVariables false
set_option linter.unusedSimpArgs false
open Go.RowKit

theorem or_step {v g k : Nat} (hv : v < 2 ^ (7 * k)) (hk : k ≤ 9) (hg : g < 128) (h9 : k = 9 → g ≤ 1) :
    bits .or .u64 (v : Int) (IntKind.u64.wrap ((g : Int) * 2 ^ (7 * k))) = ((v + g * 2 ^ (7 * k) : Nat) : Int) := by
  have hlt : v + g * 2 ^ (7 * k) < 18446744073709551616 := by
    by_cases h : k = 9
    · subst h
      have := h9 rfl
      have e : (2 : Nat) ^ (7 * 9) = 9223372036854775808 := by decide
      rw [e] at hv ⊢
      omega
    · have := acc_lt hv hg
      have h2 : 2 ^ (7 * (k + 1)) ≤ 2 ^ 63 := Nat.pow_le_pow_right (by omega) (by omega)
      omega
  have e1 : (g : Int) * 2 ^ (7 * k) = ((g * 2 ^ (7 * k) : Nat) : Int) := by simp
  rw [e1, IntWalk.u64_in _ (by omega), u64_or_nat _ _ (by omega) (by omega), or_shift hv]

set_option maxRecDepth 100000 in
set_option maxHeartbeats 800000 in
theorem number_any (r : Value) (A : Option Addr) (n c B : Nat) (bs : List UInt8) (w : World) (hl : bs.length = n) (hn : n ≤ c) (hc : c ≤ maxLen) (hr : Rd w B A (by8 bs)) :
    Calls Try.prog 75 #[r, .slice A n c] w (Ret (numV (dec 0 0 bs)) w) := by
  unfold maxLen at hc
  have HR := hide hr; clear hr
  have HL := hide hl; clear hl
  by_cases h10 : n ≤ 10
  all_goals
    go_enter Try.func75, Try.ntmps75
    go_wp2
    go_loop [6, 16] (fun a i => ∃ k v : Nat, k ≤ n ∧ k ≤ 10 ∧ Hid (v < 2 ^ (7 * k)) ∧ i = .int .i64 k ∧ a = .int .u64 v ∧ Hid (dec 0 0 bs = dec k v (bs.drop k))) (fun _ i => n - (intOf i).toNat)
    case atStart => exact ⟨0, 0, by omega, by omega, hide (by decide), rfl, rfl, hide rfl⟩
    case round =>
      obtain ⟨k, v, hk, hk10, HV, rfl, rfl, HD⟩ := hrel
      by_cases hlt : k < n ∧ k < 10
      · obtain ⟨hlt, hlt10⟩ := hlt
        have hkl : k < bs.length := by rw [HL.out]; exact hlt
        obtain ⟨ad, rfl, _, hcell⟩ := HR.out.byte hkl
        have s1 := hide (@dec_bad9 bs k v hkl)
        have s2 := hide (@dec_stop bs k v hkl hlt10)
        have s3 := hide (@dec_bad0 bs k v hkl)
        have s4 := hide (@dec_more bs k v hkl hlt10)
        generalize bs.getD k 0 = b at hcell s1 s2 s3 s4
        have hg := and_127 b
        have hb := b.toNat_lt
        generalize b.toNat = x at hcell s1 s2 s3 s4 hg hb
        obtain ⟨g, hgd⟩ : ∃ g : Nat, g = x % 128 := ⟨_, rfl⟩
        rw [← hgd] at hg s1 s2 s4
        have hg1 : g < 128 := by omega
        have hb' : x < 256 := by omega
        clear hb
        have HG := hide hgd; clear hgd
        clear hkl
        have cases9 : (Hid (k = 9 ∧ 1 < g) ∧ ((k : Int) == 9) = true ∧ 1 < g) ∨ (Hid (¬ (k = 9 ∧ 1 < g)) ∧ ((k : Int) == 9) = true ∧ g ≤ 1) ∨ (Hid (¬ (k = 9 ∧ 1 < g)) ∧ ((k : Int) == 9) = false) := by
          by_cases h9 : k = 9
          · by_cases hg : 1 < g
            · exact .inl ⟨hide ⟨h9, hg⟩, by simp; omega, hg⟩
            · exact .inr (.inl ⟨hide (fun h => hg h.2), by simp; omega, by omega⟩)
          · exact .inr (.inr ⟨hide (fun h => h9 h.1), by simp; omega⟩)
        rcases cases9 with ⟨t9, t9b, tg⟩ | cases9
        · have HF := hide (HD.out.trans (s1.out t9.out))
          clear s1 s2 s3 s4
          go_wp2
          go_ret2
          exact ⟨by rw [HF.out]; rfl, rfl⟩
        · have ho := or_step HV.out (by omega) hg1 (by intro h9; rcases cases9 with ⟨_, _, h⟩ | ⟨_, h⟩ <;> first | exact h | (simp [h9] at h))
          have HV' := hide (acc_lt HV.out hg1)
          have t9 : ¬ (k = 9 ∧ 1 < g) := by rcases cases9 with ⟨h, _⟩ | ⟨h, _⟩ <;> exact h.out
          have z2 := hide (s2.out t9)
          have z4 := hide (s4.out t9)
          clear s2 s4 t9
          generalize v + g * 2 ^ (7 * k) = v' at ho HV' z2 z4
          clear HV s1
          rcases cases9 with ⟨t9, t9b, tg⟩ | ⟨t9, t9b⟩
          all_goals
            go_wp2
            · go_ret2
              exact ⟨by rw [HD.out, s3.out (by omega) (by omega)]; rfl, rfl⟩
            · go_ret2
              exact ⟨by rw [HD.out, z2.out (by omega) (by omega)]; simp [numV], rfl⟩
            · go_ret2
              exact ⟨by rw [HD.out, z2.out (by omega) (by omega)]; simp [numV], rfl⟩
            · go_round
              case rel => exact ⟨k + 1, v', by omega, by omega, HV', by go_num, rfl, hide (HD.out.trans (z4.out (by omega)))⟩
              case measure => simp [intOf]; omega
      · have HF := hide (HD.out.trans (dec_end (bs := bs) (k := k) (v := v) (by rw [HL.out]; omega)))
        go_wp2
        go_ret2
        exact ⟨by rw [HF.out]; rfl, rfl⟩

end Go.Proofs.Ythlbfnoahdjdeaa
