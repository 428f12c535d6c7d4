/- Several texts in one: PackP, WidW, Mem4, BSl, Apart8, Vals, KitU64. -/
import Derived.Test.YtnjcncidlhllmaaGreatK1
import Derived.Lib.BitFns
import Derived.Deep.Light
import Derived.Deep.DeepAppendWide
import Derived.Lib.SlBytesConst
import Derived.Laws.MakeOwn
namespace Go.Proofs.YtnjcncidlhllmaaGreat
set_option linter.unusedVariables false
set_option linter.unusedSimpArgs false
open Go.RowKit

theorem p2 {a b : Nat} (h : a ≤ b) : 2 ^ a ≤ 2 ^ b := Nat.pow_le_pow_right (by omega) h
/-! The width. -/
theorem bla_lt : ∀ (f x : Nat), x < 2 ^ f → x < 2 ^ Lib.bitLenAux f x
  | 0, x, h => by simpa [Lib.bitLenAux] using h
  | f + 1, x, h => by
    rw [Lib.bitLenAux]
    by_cases h0 : x = 0
    · rw [if_pos h0, h0]; decide
    · rw [if_neg h0, Nat.add_comm, Nat.pow_succ]
      have := bla_lt f (x / 2) (by rw [Nat.pow_succ] at h; omega)
      omega
theorem blen_le {x : Nat} (w : Nat) (hx : x < 18446744073709551616) : Lib.bitLen x ≤ w ↔ x < 2 ^ w := by
  constructor
  · intro h
    exact Nat.lt_of_lt_of_le (bla_lt 64 x hx) (Nat.pow_le_pow_right (by omega) h)
  · intro h
    exact Lib.bitLenAux_le 64 x w h
theorem blen_64 {x : Nat} (hx : x < 18446744073709551616) : Lib.bitLen x ≤ 64 := (blen_le 64 hx).2 hx
/-- numbers of 64 bits. -/
def In64 (l : List Nat) : Prop := ∀ u ∈ l, u < 18446744073709551616
def wid (l : List Nat) : Nat := l.foldl (fun w u => max w (Lib.bitLen u)) 0
theorem widF (l : List Nat) (a w : Nat) : l.foldl (fun w u => max w (Lib.bitLen u)) a ≤ w ↔ a ≤ w ∧ ∀ u ∈ l, Lib.bitLen u ≤ w := by
  induction l generalizing a with
  | nil => simp
  | cons x r ih =>
    rw [List.foldl_cons, ih]
    simp only [List.mem_cons, forall_eq_or_imp]
    constructor
    · exact fun ⟨h1, h2⟩ => ⟨by omega, by omega, h2⟩
    · exact fun ⟨h1, h2, h3⟩ => ⟨by omega, h3⟩
theorem wid_le {l : List Nat} (h : In64 l) (w : Nat) : wid l ≤ w ↔ ∀ u ∈ l, u < 2 ^ w := by
  unfold wid
  rw [widF]
  constructor
  · exact fun ⟨_, h1⟩ u hu => (blen_le w (h u hu)).1 (h1 u hu)
  · exact fun h1 => ⟨Nat.zero_le _, fun u hu => (blen_le w (h u hu)).2 (h1 u hu)⟩
theorem wid_64 {l : List Nat} (h : In64 l) : wid l ≤ 64 := (wid_le h 64).2 h
theorem wid_lt {l : List Nat} (h : In64 l) : ∀ u ∈ l, u < 2 ^ wid l := (wid_le h _).1 (Nat.le_refl _)
theorem wid_snoc (l : List Nat) (u : Nat) : wid (l ++ [u]) = max (wid l) (Lib.bitLen u) := by simp [wid, List.foldl_append]
def orL (l : List Nat) : Nat := l.foldl (· ||| ·) 0
theorem orL_snoc (l : List Nat) (u : Nat) : orL (l ++ [u]) = orL l ||| u := by simp [orL, List.foldl_append]
theorem orF (l : List Nat) (a w : Nat) : l.foldl (· ||| ·) a < 2 ^ w ↔ a < 2 ^ w ∧ ∀ u ∈ l, u < 2 ^ w := by
  induction l generalizing a with
  | nil => simp
  | cons x r ih =>
    rw [List.foldl_cons, ih]
    simp only [List.mem_cons, forall_eq_or_imp]
    constructor
    · exact fun ⟨h1, h2⟩ => ⟨Nat.lt_of_le_of_lt Nat.left_le_or h1, Nat.lt_of_le_of_lt Nat.right_le_or h1, h2⟩
    · exact fun ⟨h1, h2, h3⟩ => ⟨Nat.or_lt_two_pow h1 h2, h3⟩
theorem orL_lt (l : List Nat) (w : Nat) : orL l < 2 ^ w ↔ ∀ u ∈ l, u < 2 ^ w := by
  unfold orL
  rw [orF]
  exact ⟨fun h => h.2, fun h => ⟨Nat.two_pow_pos w, h⟩⟩
theorem orL_64 {l : List Nat} (h : In64 l) : orL l < 18446744073709551616 := (orL_lt l 64).2 h
theorem orL_wid {l : List Nat} (h : In64 l) : Lib.bitLen (orL l) = wid l := by
  have h1 : ∀ w, Lib.bitLen (orL l) ≤ w ↔ wid l ≤ w := fun w => by rw [blen_le w (orL_64 h), orL_lt, wid_le h]
  exact Nat.le_antisymm ((h1 _).2 (Nat.le_refl _)) ((h1 _).1 (Nat.le_refl _))

/-! Packed. -/
/-- byte j of those bits that stand below t. -/
def pby (f : Nat → Bool) (t j : Nat) : Nat := wN (fun q => decide (8 * j + q < t) && f (8 * j + q)) 8
theorem pby_lt (f : Nat → Bool) (t j : Nat) : pby f t j < 256 := wN_lt _ 8
theorem pby_bit (f : Nat → Bool) (t j q : Nat) : (pby f t j).testBit q = (decide (q < 8) && (decide (8 * j + q < t) && f (8 * j + q))) := wN_bit _ 8 q
def pbys (f : Nat → Bool) (t m : Nat) : List UInt8 := (List.range m).map fun j => UInt8.ofNat (pby f t j)
theorem pbys_len (f : Nat → Bool) (t m : Nat) : (pbys f t m).length = m := by simp [pbys]
theorem pbys_at {f : Nat → Bool} {t m j : Nat} (h : j < m) : (pbys f t m).getD j 0 = UInt8.ofNat (pby f t j) := by simp [pbys, h]
theorem pbys_nat {f : Nat → Bool} {t m j : Nat} (h : j < m) : ((pbys f t m).getD j 0).toNat = pby f t j := by rw [pbys_at h, ofNat_toNat (pby_lt _ _ _)]
theorem pbys_cell {f : Nat → Bool} {t m j : Nat} (h : j < m) : (by8 (pbys f t m))[j]? = some (.int .u8 (pby f t j : Nat)) := by
  rw [by8_get _ _ (by rw [pbys_len]; exact h), pbys_nat h]
theorem pby_same {f : Nat → Bool} {t t' j : Nat} (h1 : t ≤ t') (h2 : t' ≤ 8 * (t / 8) + 8) (hj : j ≠ t / 8) : pby f t j = pby f t' j := by
  unfold pby
  apply wN_congr
  intro q hq
  congr 1
  by_cases h : 8 * j + q < t
  · rw [decide_eq_true h, decide_eq_true (by omega)]
  · rw [decide_eq_false h, decide_eq_false (by omega)]
theorem pbys_set {f : Nat → Bool} {t t' m : Nat} (h1 : t ≤ t') (h2 : t' ≤ 8 * (t / 8) + 8) : (by8 (pbys f t m)).set (t / 8) (.int .u8 (pby f t' (t / 8) : Nat)) = by8 (pbys f t' m) := by
  apply List.ext_getElem
  · simp [by8, pbys]
  · intro k k1 k2
    have hk : k < m := by simpa [by8, pbys] using k1
    by_cases e : t / 8 = k
    · subst e
      rw [List.getElem_set_self]
      have := pbys_cell (f := f) (t := t') hk
      rw [List.getElem?_eq_getElem (by simpa [by8, pbys] using hk)] at this
      exact (Option.some.inj this).symm
    · rw [List.getElem_set_ne e]
      have a1 := pbys_cell (f := f) (t := t') hk
      have a2 := pbys_cell (f := f) (t := t) hk
      rw [List.getElem?_eq_getElem (by simpa [by8, pbys] using hk)] at a1 a2
      rw [Option.some.inj a1, Option.some.inj a2, pby_same h1 h2 (fun h => e h.symm)]
theorem pby_step {f : Nat → Bool} {t d x : Nat} (hd : t % 8 + d ≤ 8) (hx : x < 256)
    (hb : ∀ q, q < 8 → x.testBit q = (decide (t % 8 ≤ q) && decide (q < t % 8 + d) && f (8 * (t / 8) + q))) : pby f t (t / 8) ||| x = pby f (t + d) (t / 8) := by
  refine wN_ext (k := 8) (Nat.or_lt_two_pow (pby_lt _ _ _) hx) ?_
  intro q hq
  rw [Nat.testBit_or, pby_bit, hb q hq, decide_eq_true hq, Bool.true_and]
  by_cases h1 : 8 * (t / 8) + q < t
  · rw [decide_eq_true h1, decide_eq_false (show ¬ t % 8 ≤ q by omega), decide_eq_true (show 8 * (t / 8) + q < t + d by omega)]; simp
  · rw [decide_eq_false h1, decide_eq_true (show t % 8 ≤ q by omega)]
    by_cases h2 : q < t % 8 + d
    · rw [decide_eq_true h2, decide_eq_true (show 8 * (t / 8) + q < t + d by omega)]; simp
    · rw [decide_eq_false h2, decide_eq_false (show ¬ 8 * (t / 8) + q < t + d by omega)]; simp
theorem pby_zero {f : Nat → Bool} {t j : Nat} (h : t ≤ 8 * j) : pby f t j = 0 := by
  apply Nat.eq_of_testBit_eq
  intro q
  rw [pby_bit, decide_eq_false (show ¬ 8 * j + q < t by omega)]
  simp
theorem pbys_none (f : Nat → Bool) (m : Nat) : by8 (pbys f 0 m) = List.replicate m (.int .u8 0) := by
  apply List.ext_getElem
  · simp [by8, pbys]
  · intro k k1 k2
    have hk : k < m := by simpa [by8, pbys] using k1
    have a1 := pbys_cell (f := f) (t := 0) hk
    rw [List.getElem?_eq_getElem (by simpa [by8, pbys] using hk), pby_zero (Nat.zero_le _)] at a1
    rw [Option.some.inj a1]
    simp
theorem pbys_more {f : Nat → Bool} {t m : Nat} (h : t ≤ 8 * m) : pbys f t (m + 1) = pbys f t m ++ [0] := by
  unfold pbys
  rw [List.range_succ, List.map_append, List.map_cons, List.map_nil, pby_zero h]
  rfl

/-- bit p of numbers one behind the other; of bytes. -/
def pbit (w : Nat) (l : List Nat) (p : Nat) : Bool := (l.getD (p / w) 0).testBit (p % w)
def bbit (b : List UInt8) (p : Nat) : Bool := ((b.getD (p / 8) 0).toNat).testBit (p % 8)
def psz (w n : Nat) : Nat := (w * n + 7) / 8
def packed (w : Nat) (l : List Nat) : List UInt8 := pbys (pbit w l) (w * l.length) (psz w l.length)
theorem packed_len (w : Nat) (l : List Nat) : (packed w l).length = psz w l.length := pbys_len _ _ _
theorem packed_0 (l : List Nat) : packed 0 l = [] := by
  have : psz 0 l.length = 0 := by simp [psz]
  unfold packed
  rw [this]
  rfl
theorem at_div {w i k : Nat} (hk : k < w) : (w * i + k) / w = i ∧ (w * i + k) % w = k := by
  have hw : 0 < w := by omega
  rw [Nat.mul_add_div hw, Nat.div_eq_of_lt hk, Nat.mul_add_mod, Nat.mod_eq_of_lt hk]
  exact ⟨rfl, rfl⟩
theorem pbit_at {w i k : Nat} (l : List Nat) (hk : k < w) : pbit w l (w * i + k) = (l.getD i 0).testBit k := by
  unfold pbit
  rw [(at_div hk).1, (at_div hk).2]
/-- a part of a number, shifted to its place in a byte. -/
def part (u k d s : Nat) : Nat := ((u >>> k) &&& (2 ^ d - 1)) <<< s
theorem part_bit (u k d s q : Nat) : (part u k d s).testBit q = (decide (s ≤ q) && (u.testBit (k + (q - s)) && decide (q - s < d))) := by
  unfold part
  rw [Nat.testBit_shiftLeft, Nat.testBit_and, Nat.testBit_shiftRight, Nat.testBit_two_pow_sub_one]
theorem part_lt {u k d s n : Nat} (h : s + d ≤ n) : part u k d s < 2 ^ n := by
  apply Nat.lt_pow_two_of_testBit
  intro q hq
  rw [part_bit]
  rw [decide_eq_false (show ¬ q - s < d by omega)]
  simp
theorem pack_step {w i k d : Nat} (l : List Nat) (hk : k + d ≤ w) (hd : (w * i + k) % 8 + d ≤ 8) :
    pby (pbit w l) (w * i + k) ((w * i + k) / 8) ||| part (l.getD i 0) k d ((w * i + k) % 8) = pby (pbit w l) (w * i + k + d) ((w * i + k) / 8) := by
  generalize ht : w * i + k = t at hd ⊢
  refine pby_step hd (part_lt (n := 8) hd) ?_
  intro q hq
  rw [part_bit]
  by_cases h1 : t % 8 ≤ q
  · by_cases h2 : q < t % 8 + d
    · have e : 8 * (t / 8) + q = w * i + (k + (q - t % 8)) := by omega
      rw [e, pbit_at l (by omega), decide_eq_true h1, decide_eq_true h2, decide_eq_true (show q - t % 8 < d by omega)]
      simp
    · rw [decide_eq_true h1, decide_eq_false h2, decide_eq_false (show ¬ q - t % 8 < d by omega)]; simp
  · rw [decide_eq_false h1]; rfl
theorem pbys_bit {f : Nat → Bool} {t m p : Nat} (h : p < 8 * m) : bbit (pbys f t m) p = (decide (p < t) && f p) := by
  unfold bbit
  rw [pbys_nat (show p / 8 < m by omega), pby_bit, decide_eq_true (show p % 8 < 8 by omega), show 8 * (p / 8) + p % 8 = p by omega]
  rfl
theorem packed_bit {w : Nat} {l : List Nat} {p : Nat} (h : p < w * l.length) : bbit (packed w l) p = pbit w l p := by
  have h1 : p < 8 * psz w l.length := by unfold psz; omega
  unfold packed
  rw [pbys_bit h1, decide_eq_true h]
  rfl

/-! Unpacked. -/
def unum (w : Nat) (b : List UInt8) (t j : Nat) : Nat := wN (fun q => decide (w * j + q < t) && bbit b (w * j + q)) w
theorem unum_lt (w : Nat) (b : List UInt8) (t j : Nat) : unum w b t j < 2 ^ w := wN_lt _ w
theorem unum_lt64 {w : Nat} (h : w ≤ 64) (b : List UInt8) (t j : Nat) : unum w b t j < 18446744073709551616 :=
  Nat.lt_of_lt_of_le (unum_lt w b t j) (p2 (b := 64) h)
theorem unum_bit (w : Nat) (b : List UInt8) (t j q : Nat) : (unum w b t j).testBit q = (decide (q < w) && (decide (w * j + q < t) && bbit b (w * j + q))) := wN_bit _ w q
def unums (w : Nat) (b : List UInt8) (t n : Nat) : List Nat := (List.range n).map (unum w b t)
theorem unums_len (w : Nat) (b : List UInt8) (t n : Nat) : (unums w b t n).length = n := by simp [unums]
theorem unums_at {w : Nat} {b : List UInt8} {t n j : Nat} (h : j < n) : (unums w b t n)[j]? = some (unum w b t j) := by simp [unums, h]
def unpacked (w n : Nat) (b : List UInt8) : List Nat := unums w b (w * n) n
theorem unpacked_len (w n : Nat) (b : List UInt8) : (unpacked w n b).length = n := unums_len _ _ _ _
theorem unpacked_lt {w n : Nat} {b : List UInt8} : ∀ u ∈ unpacked w n b, u < 2 ^ w := by
  intro u hu
  obtain ⟨j, _, rfl⟩ := List.mem_map.1 hu
  exact unum_lt _ _ _ _
theorem unpacked_64 {w n : Nat} {b : List UInt8} (h : w ≤ 64) : In64 (unpacked w n b) := fun u hu => Nat.lt_of_lt_of_le (unpacked_lt u hu) (p2 (b := 64) h)
theorem unpack_step {w i k d : Nat} (b : List UInt8) (hk : k + d ≤ w) (hd : (w * i + k) % 8 + d ≤ 8) :
    unum w b (w * i + k) i ||| part ((b.getD ((w * i + k) / 8) 0).toNat) ((w * i + k) % 8) d k = unum w b (w * i + k + d) i := by
  generalize ht : w * i + k = t at hd ⊢
  refine wN_ext (k := w) (Nat.or_lt_two_pow (unum_lt _ _ _ _) (part_lt hk)) ?_
  intro q hq
  rw [Nat.testBit_or, unum_bit, part_bit, decide_eq_true hq, Bool.true_and]
  by_cases h1 : k ≤ q
  · rw [decide_eq_false (show ¬ w * i + q < t by omega), decide_eq_true h1]
    by_cases h2 : q - k < d
    · have e : bbit b (w * i + q) = ((b.getD (t / 8) 0).toNat).testBit (t % 8 + (q - k)) := by
        unfold bbit
        rw [show (w * i + q) / 8 = t / 8 by omega, show (w * i + q) % 8 = t % 8 + (q - k) by omega]
      rw [decide_eq_true h2, decide_eq_true (show w * i + q < t + d by omega), e]
      simp
    · rw [decide_eq_false h2, decide_eq_false (show ¬ w * i + q < t + d by omega)]; simp
  · rw [decide_eq_true (show w * i + q < t by omega), decide_eq_false h1, decide_eq_true (show w * i + q < t + d by omega)]; simp
theorem unum_same {w i k d j : Nat} {b : List UInt8} (hk : k + d ≤ w) (hj : j ≠ i) : unum w b (w * i + k) j = unum w b (w * i + k + d) j := by
  unfold unum
  apply wN_congr
  intro q hq
  congr 1
  rcases Nat.lt_or_ge j i with h | h
  · have : w * (j + 1) ≤ w * i := Nat.mul_le_mul_left _ h
    rw [Nat.mul_add] at this
    rw [decide_eq_true (by omega), decide_eq_true (by omega)]
  · have : w * (i + 1) ≤ w * j := Nat.mul_le_mul_left _ (by omega)
    rw [Nat.mul_add] at this
    rw [decide_eq_false (by omega), decide_eq_false (by omega)]
theorem unums_set {w i k d n : Nat} {b : List UInt8} (hk : k + d ≤ w) (hi : i < n) : (unums w b (w * i + k) n).set i (unum w b (w * i + k + d) i) = unums w b (w * i + k + d) n := by
  apply List.ext_getElem
  · simp [unums]
  · intro j j1 j2
    have hj : j < n := by simpa [unums] using j1
    by_cases e : i = j
    · subst e
      simp [unums]
    · rw [List.getElem_set_ne e]
      simp only [unums, List.getElem_map, List.getElem_range]
      exact unum_same hk (fun h => e h.symm)
theorem unum_zero {w t j : Nat} {b : List UInt8} (h : t ≤ w * j) : unum w b t j = 0 := by
  apply Nat.eq_of_testBit_eq
  intro q
  rw [unum_bit, decide_eq_false (show ¬ w * j + q < t by omega)]
  simp
theorem unums_none (w : Nat) (b : List UInt8) (n : Nat) : unums w b 0 n = List.replicate n 0 := by
  apply List.ext_getElem
  · simp [unums]
  · intro j j1 j2
    simp [unums, unum_zero]

/-- what is left of the last byte. -/
def leftN (b : List UInt8) (t : Nat) : Nat := if t % 8 = 0 then 0 else (b.getD (t / 8) 0).toNat >>> (t % 8)
theorem leftN_iff {b : List UInt8} {t : Nat} (hl : b.length = (t + 7) / 8) : leftN b t = 0 ↔ ∀ p, t ≤ p → p < 8 * b.length → bbit b p = false := by
  unfold leftN
  by_cases h0 : t % 8 = 0
  · rw [if_pos h0]
    exact ⟨fun _ p h1 h2 => by omega, fun _ => rfl⟩
  · rw [if_neg h0]
    constructor
    · intro h p h1 h2
      have e : p / 8 = t / 8 := by omega
      unfold bbit
      rw [e]
      have := congrArg (fun n => n.testBit (p % 8 - t % 8)) h
      simp only [Nat.testBit_shiftRight, Nat.zero_testBit] at this
      rwa [show t % 8 + (p % 8 - t % 8) = p % 8 by omega] at this
    · intro h
      apply Nat.eq_of_testBit_eq
      intro q
      rw [Nat.testBit_shiftRight, Nat.zero_testBit]
      by_cases hq : t % 8 + q < 8
      · have := h (t + q) (by omega) (by omega)
        unfold bbit at this
        rwa [show (t + q) / 8 = t / 8 by omega, show (t + q) % 8 = t % 8 + q by omega] at this
      · exact Nat.testBit_lt_two_pow (Nat.lt_of_lt_of_le (b.getD (t / 8) 0).toNat_lt (p2 (a := 8) (b := t % 8 + q) (by omega)))

/-! To and fro. -/
theorem unpack_pack {w : Nat} {l : List Nat} (h : ∀ u ∈ l, u < 2 ^ w) : unpacked w l.length (packed w l) = l := by
  apply List.ext_getElem
  · rw [unpacked_len]
  · intro i i1 i2
    simp only [unpacked, unums, List.getElem_map, List.getElem_range]
    refine (wN_ext (h _ (List.getElem_mem i2)) ?_).symm
    intro q hq
    have hlt : w * i + q < w * l.length := by
      have : w * (i + 1) ≤ w * l.length := Nat.mul_le_mul_left _ i2
      rw [Nat.mul_add] at this
      omega
    rw [decide_eq_true hlt, packed_bit hlt, pbit_at l hq]
    simp [List.getElem?_eq_getElem i2]
theorem packed_left (w : Nat) (l : List Nat) : leftN (packed w l) (w * l.length) = 0 := by
  rw [leftN_iff (by rw [packed_len]; rfl)]
  intro p h1 h2
  rw [packed_len] at h2
  unfold packed
  rw [pbys_bit h2, decide_eq_false (by omega)]
  rfl
theorem bytes_ext {a b : List UInt8} (hl : a.length = b.length) (h : ∀ p, p < 8 * a.length → bbit a p = bbit b p) : a = b := by
  apply List.ext_getElem hl
  intro i i1 i2
  apply UInt8.toNat_inj.1
  apply Nat.eq_of_testBit_eq
  intro q
  by_cases hq : q < 8
  · have := h (8 * i + q) (by omega)
    unfold bbit at this
    rw [show (8 * i + q) / 8 = i by omega, show (8 * i + q) % 8 = q by omega] at this
    simpa [List.getElem?_eq_getElem i1, List.getElem?_eq_getElem i2] using this
  · have hb : ∀ x : UInt8, x.toNat.testBit q = false := fun x => Nat.testBit_lt_two_pow (Nat.lt_of_lt_of_le x.toNat_lt (p2 (a := 8) (b := q) (by omega)))
    rw [hb, hb]
theorem pack_unpack {w n : Nat} {b : List UInt8} (hl : b.length = psz w n) (h : leftN b (w * n) = 0) : packed w (unpacked w n b) = b := by
  have hl2 : (packed w (unpacked w n b)).length = b.length := by rw [packed_len, unpacked_len, hl]
  refine bytes_ext hl2 ?_
  intro p hp
  rw [hl2] at hp
  by_cases hlt : p < w * n
  · rw [packed_bit (by rw [unpacked_len]; exact hlt)]
    have hw : 0 < w := by
      rcases Nat.eq_zero_or_pos w with e | e
      · rw [e, Nat.zero_mul] at hlt; omega
      · exact e
    have hm : p % w < w := Nat.mod_lt _ hw
    have hd : p / w < n := Nat.div_lt_of_lt_mul hlt
    have e : w * (p / w) + p % w = p := Nat.div_add_mod p w
    unfold pbit
    have e2 : (unpacked w n b).getD (p / w) 0 = unum w b (w * n) (p / w) := by
      unfold unpacked
      rw [List.getD_eq_getElem?_getD, unums_at hd]
      rfl
    rw [e2, unum_bit, decide_eq_true hm, e, decide_eq_true hlt]
    rfl
  · rw [(leftN_iff (by rw [hl]; rfl)).1 h p (by omega) hp]
    unfold packed
    rw [pbys_bit (by rw [unpacked_len, ← hl]; exact hp), unpacked_len, decide_eq_false hlt]
    rfl

/-- Bits, Unbits, of whatever numbers. -/
def bitsZ (l : List Nat) (w : Int) : List UInt8 := if 0 ≤ w ∧ w ≤ 64 then packed w.toNat l else []
def unbitsZ (b : List UInt8) (w n : Int) : List Nat × Int :=
  if w < 0 ∨ 64 < w ∨ n < 0 ∨ 1048576 < n then ([], 1)
  else if b.length ≠ psz w.toNat n.toNat ∨ leftN b (w.toNat * n.toNat) ≠ 0 then ([], 20) else (unpacked w.toNat n.toNat b, 0)
end Go.Proofs.YtnjcncidlhllmaaGreat
namespace Go.Proofs.YtnjcncidlhllmaaGreat
set_option linter.unusedVariables false
set_option linter.unusedSimpArgs false
open Go.RowKit

def zN (l : List Nat) : List Int := l.map fun (n : Nat) => (n : Int)
def nz (l : List Nat) : List Value := iz .u64 (zN l)
theorem zN_len (l : List Nat) : (zN l).length = l.length := by simp [zN]
theorem nz_len (l : List Nat) : (nz l).length = l.length := by simp [nz, iz, zN]
theorem nz_append (l m : List Nat) : nz (l ++ m) = nz l ++ nz m := by simp [nz, iz, zN]
theorem nz_take (l : List Nat) (n : Nat) : nz (l.take n) = (nz l).take n := by simp [nz, iz, zN, List.map_take]
theorem nz_one (l : List Nat) : ∀ u ∈ nz l, u.oneCell' = true := iz_one _ _
theorem nz_at (l : List Nat) {j : Nat} (h : j < l.length) : (nz l)[j]? = some (.int .u64 (l.getD j 0 : Nat)) := by simp [nz, iz, zN, h]
theorem nz_set (l : List Nat) (i : Nat) (v : Nat) : (nz l).set i (.int .u64 (v : Nat)) = nz (l.set i v) := by simp [nz, iz, zN, List.map_set]
theorem nz_rep (n : Nat) : nz (List.replicate n 0) = List.replicate n (.int .u64 0) := by simp [nz, iz, zN]
theorem zN_inj {l m : List Nat} (h : zN l = zN m) : l = m := by
  unfold zN at h
  exact List.map_inj_right (fun x y hxy => by omega) |>.1 h
theorem zN_eq (l m : List Nat) : (zN l = zN m) = (l = m) := propext ⟨zN_inj, fun h => by rw [h]⟩
theorem zN_of {l : List Int} (h : ∀ z ∈ l, 0 ≤ z) : zN (l.map Int.toNat) = l := by
  unfold zN
  rw [List.map_map]
  conv => rhs; rw [← List.map_id l]
  apply List.map_congr_left
  intro x hx
  have := h x hx
  simp
  omega
theorem Rd.natAt {w : World} {B : Nat} {A : Option Addr} {l : List Nat} (h : Rd w B A (nz l)) {j : Nat} (hj : j < l.length) : ∃ ad, A = some ad ∧ ad.block < B ∧ w.cell? (ad.add j) = some (.int .u64 (l.getD j 0 : Nat)) :=
  h j _ (nz_at l hj)
theorem In64.at {l : List Nat} (h : In64 l) (j : Nat) : l.getD j 0 < 18446744073709551616 := by
  by_cases hj : j < l.length
  · have : l.getD j 0 = l[j] := by simp [List.getElem?_eq_getElem hj]
    rw [this]
    exact h _ (List.getElem_mem hj)
  · have : l.getD j 0 = 0 := by simp [List.getElem?_eq_none (Nat.le_of_not_lt hj)]
    omega
theorem take_snocN {l : List Nat} {k : Nat} (h : k < l.length) : l.take (k + 1) = l.take k ++ [l.getD k 0] := by
  rw [List.take_succ_eq_append_getElem h]
  simp [List.getElem?_eq_getElem h]
theorem orL_take {l : List Nat} (h : In64 l) (k : Nat) : orL (l.take k) < 18446744073709551616 := orL_64 fun u hu => h u (List.mem_of_mem_take hu)
theorem wid_take {l : List Nat} (h : In64 l) (k : Nat) : wid (l.take k) ≤ 64 := wid_64 fun u hu => h u (List.mem_of_mem_take hu)
end Go.Proofs.YtnjcncidlhllmaaGreat
namespace Go.Proofs.YtnjcncidlhllmaaGreat
set_option linter.unusedVariables false
set_option linter.unusedSimpArgs false
open Go.RowKit

theorem len8_cl (k : Nat) (y : Int) (n : Nat) (h : y.toNat < Lib.len8tab.size) (h0 : 0 ≤ y) (hk : k ≤ 56) (hn : n = k + Lib.bitLen y.toNat) : wrap64 ((k : Int) + wrap64 ((Lib.len8tab[y.toNat]'h).toNat : Int)) = n := by
  have e : ((Lib.len8tab[y.toNat]'h).toNat : Int) = Lib.len8 y := by
    unfold Lib.len8
    rw [getElem?_pos Lib.len8tab y.toNat h]
    rfl
  rw [Lib.len8tab_size] at h
  have l := Lib.bitLen_le8' y h0 (by omega)
  rw [e, Lib.len8_of y h0 (by omega)]
  unfold wrap64
  omega
theorem len8_c0 (y : Int) (n : Nat) (h : y.toNat < Lib.len8tab.size) (h0 : 0 ≤ y) (hn : n = Lib.bitLen y.toNat) : wrap64 (wrap64 ((Lib.len8tab[y.toNat]'h).toNat : Int)) = n := by
  have := len8_cl 0 y n h h0 (by omega) (by omega)
  simpa using this

set_option maxHeartbeats 4000000 in
set_option maxRecDepth 100000 in
theorem len64_int (x : Int) (w : World) (h0 : 0 ≤ x) (h1 : x ≤ 18446744073709551615) :
    Calls Tryz.prog 115 #[.int .u64 x] w fun e w' => e = .returned (.int .i64 (Lib.bitLen x.toNat)) ∧ w' = w := by
  go_enter Tryz.func115, Tryz.ntmps115
  go_wp2
  all_goals first
    | (go_ret; refine ⟨congrArg Ending.returned (congrArg (Value.int IntKind.i64) ?_), rfl⟩; go_light)
    | (exfalso; go_light; have hs := Lib.len8tab_size; omega)
  all_goals first
    | (have e : (x / 4294967296 / 65536 / 256).toNat = x.toNat / 72057594037927936 := by omega
       have s := Lib.bitLen_shift56 x.toNat (by omega) (by omega)
       exact len8_cl 56 (x / 4294967296 / 65536 / 256) _ _ (by omega) (by decide) (by rw [e]; exact s))
    | (have e : (x / 4294967296 / 65536).toNat = x.toNat / 281474976710656 := by omega
       have s := Lib.bitLen_shift48 x.toNat (by omega) (by omega)
       exact len8_cl 48 (x / 4294967296 / 65536) _ _ (by omega) (by decide) (by rw [e]; exact s))
    | (have e : (x / 4294967296 / 256).toNat = x.toNat / 1099511627776 := by omega
       have s := Lib.bitLen_shift40 x.toNat (by omega) (by omega)
       exact len8_cl 40 (x / 4294967296 / 256) _ _ (by omega) (by decide) (by rw [e]; exact s))
    | (have e : (x / 4294967296).toNat = x.toNat / 4294967296 := by omega
       have s := Lib.bitLen_shift32 x.toNat (by omega) (by omega)
       exact len8_cl 32 (x / 4294967296) _ _ (by omega) (by decide) (by rw [e]; exact s))
    | (have e : (x / 65536 / 256).toNat = x.toNat / 16777216 := by omega
       have s := Lib.bitLen_shift24 x.toNat (by omega) (by omega)
       exact len8_cl 24 (x / 65536 / 256) _ _ (by omega) (by decide) (by rw [e]; exact s))
    | (have e : (x / 65536).toNat = x.toNat / 65536 := by omega
       have s := Lib.bitLen_shift16 x.toNat (by omega) (by omega)
       exact len8_cl 16 (x / 65536) _ _ (by omega) (by decide) (by rw [e]; exact s))
    | (have e : (x / 256).toNat = x.toNat / 256 := by omega
       have s := Lib.bitLen_shift8 x.toNat (by omega) (by omega)
       exact len8_cl 8 (x / 256) _ _ (by omega) (by decide) (by rw [e]; exact s))
    | exact len8_c0 x _ _ (by omega) rfl
    | (have := len8_cl 0 x _ ‹_› (by omega) (by decide) (Nat.zero_add _).symm; simpa using this)
theorem len64_any (x : Nat) (w : World) (h : x < 18446744073709551616) : Calls Tryz.prog 115 #[.int .u64 (x : Nat)] w (Ret (.int .i64 (Lib.bitLen x : Nat)) w) :=
  (len64_int x w (by omega) (by omega)).mono fun e w' ⟨h1, h2⟩ => ⟨by rw [h1]; simp, h2.symm⟩
end Go.Proofs.YtnjcncidlhllmaaGreat
namespace Go.Proofs.YtnjcncidlhllmaaGreat
set_option linter.unusedVariables false
set_option linter.unusedSimpArgs false
open Go.RowKit

set_option maxRecDepth 100000 in
set_option maxHeartbeats 400000 in
theorem size_any (a b : Nat) (w : World) (h : a * b ≤ 4611686018427387904) : Calls Tryz.prog 103 #[.int .i64 (a : Nat), .int .i64 (b : Nat)] w (Ret (.int .i64 (psz a b : Nat)) w) := by
  have e : (a : Int) * (b : Int) = ((a * b : Nat) : Int) := by simp
  have e2 : (((a * b : Nat) : Int) + 7) / 8 = ((psz a b : Nat) : Int) := by unfold psz; omega
  generalize psz a b = p at e2 ⊢
  generalize a * b = m at h e e2
  go_enter Tryz.func103, Tryz.ntmps103
  go_wp2_with (rw [e])
  go_ret
  exact ⟨by rw [← e2]; rfl, rfl⟩

set_option maxRecDepth 100000 in
set_option maxHeartbeats 800000 in
theorem width_any (A : Option Addr) (n c B : Nat) (l : List Nat) (w : World) (hl : l.length = n) (hi : In64 l) (hn : n ≤ c) (hc : c ≤ maxLen) (hr : Rd w B A (nz l)) :
    Calls Tryz.prog 98 #[.slice A n c] w (Ret (.int .i64 (wid l : Nat)) w) := by
  unfold maxLen at hc
  have HR := hide hr
  have HL := hide hl
  have HI := hide hi
  have HE := hide (fun w => len64_any (orL l) w (orL_64 hi))
  rw [orL_wid hi] at HE
  clear hr hl hi
  go_enter Tryz.func98, Tryz.ntmps98
  go_wp2
  go_loop [3, 5, 8] (fun s u i => ∃ k y : Nat, k ≤ n ∧ i = .int .i64 k ∧ s = .int .u64 (y : Nat) ∧ Hid (y = orL (l.take k))) (fun _ _ i => n - (intOf i).toNat)
  case atStart => exact ⟨0, 0, by omega, rfl, rfl, hide rfl⟩
  case round =>
    obtain ⟨k, y, hk, rfl, rfl, HY⟩ := hrel
    by_cases hlt : k < n
    · have h1 : k < l.length := by rw [HL.out]; exact hlt
      obtain ⟨ad, rfl, _, hcell⟩ := HR.out.natAt h1
      have hx := HI.out.at k
      have hy : y < 18446744073709551616 := by rw [HY.out]; exact orL_take HI.out k
      have HS := hide (show y ||| l.getD k 0 = orL (l.take (k + 1)) by rw [take_snocN h1, orL_snoc, HY.out])
      generalize l.getD k 0 = x at hcell hx HS
      have HB := hide (u64_or_nat y x hy hx)
      clear h1
      go_wp2
      go_round
      case rel => exact ⟨k + 1, y ||| x, by omega, by go_num, by rw [HB.out], HS⟩
      case measure => simp [intOf]; omega
    · obtain rfl : k = n := by omega
      have HT := hide (show y = orL l by rw [HY.out, ← HL.out, List.take_length])
      rw [← HT.out] at HE
      clear hlt
      go_wp2_with (go_at_call 115; refine (HE.out _).mono ?_; rintro en w' ⟨rfl, rfl⟩)
      go_ret
      exact ⟨rfl, rfl⟩

/-- is a number beyond so many bits? -/
theorem shr_ne (x k : Nat) : (((x : Int) / 2 ^ k) != 0) = decide (2 ^ k ≤ x) := by
  have e : ((x : Int) / 2 ^ k) = ((x / 2 ^ k : Nat) : Int) := by simp
  rw [e]
  have hp : 0 < 2 ^ k := Nat.two_pow_pos k
  by_cases h : 2 ^ k ≤ x
  · have : x / 2 ^ k ≠ 0 := by
      have := Nat.div_pos h hp
      omega
    rw [decide_eq_true h]
    simp only [bne_iff_ne, ne_eq]
    omega
  · rw [decide_eq_false h, Nat.div_eq_of_lt (by omega)]
    rfl

end Go.Proofs.YtnjcncidlhllmaaGreat
namespace Go.Proofs.YtnjcncidlhllmaaGreat
set_option linter.unusedVariables false
set_option linter.unusedSimpArgs false
open Go.RowKit

section
variable {P : Program} (w : World)
/-- append onto a slice of the call's own, from whatever source. -/
theorem run_append_wide (base : Nat) (t tx ty e : TypeId) (i : TypeInfo) (z : Value) (size bytes : Nat) (ht : P.underlying t = some (.slice e)) (hi : P.info? e = some i) (hz : i.zero = some z)
    (hsize : i.size = size) (hby : i.bytes = bytes) (hzs : z.cells.size = size)
    (v : Value) (n : Nat) (xs : List Value) (hown : Own w base e size v n xs) (x : Value) (m : Nat) (news : List Value) (hs : Src P size tx x m news w)
    (hbytes : ((n + m) + (n + m) / 4 + 192) * bytes ≤ 281474976710656) (h63 : n + m ≤ maxLen) (hbase : base ≤ w.heap.size) :
    ∃ v' w', (Builtin.append_ #[t, tx] ty #[v, x]).run P w = .ok v' w' ∧ Own w' base e size v' (n + m) (xs ++ news) ∧ Fr (fun k => v.ownBlock = some k) w w' ∧
      (v'.ownBlock = v.ownBlock ∨ v'.ownBlock = some w.heap.size) := by
  subst hsize
  subst hby
  have hlen : (xs ++ news).length = (n + m) * i.size := by rw [List.length_append, hown.1, hs.newsLen, Nat.add_mul]
  have h63' : n + m ≤ 9223372036854775807 := by simp only [maxLen] at h63; omega
  have hown' := hown
  obtain ⟨hl, A, c, rfl, hc, hm, hA⟩ := hown
  by_cases hroom : n + m ≤ c
  · rcases hA with ⟨rfl, rfl⟩ | ⟨g, cur, rfl, hb, hh, hcs, htk⟩
    · have hn0 : n = 0 := by omega
      have hm0 : m = 0 := by omega
      subst hn0; subst hm0
      have h1 : xs = [] := List.eq_nil_of_length_eq_zero (by simpa using hl)
      have h2 : news = [] := List.eq_nil_of_length_eq_zero (by simpa using hs.newsLen)
      subst h1; subst h2
      refine ⟨.slice none 0 0, w, ?_, Own.nil _ _ _ _, Fr.refl _ _, .inl rfl⟩
      rcases hs.kind with ⟨e', hk⟩ | hk <;> simp [Builtin.append_, run_underlying ht, run_underlying hk, sizeOf, typeInfo, hi, hs.len, hs.cells]
    · have hfit : n * i.size + news.length ≤ cur.size := by
        rw [hs.newsLen, ← Nat.add_mul]
        exact Nat.le_trans (Nat.mul_le_mul_right _ hroom) hcs
      have hst := run_storeCells_at P g (n * i.size) e news 0 cur w hh (by simpa using hfit) hs.one
      simp only [Nat.add_zero] at hst
      refine ⟨.slice (some ⟨g, 0, none⟩) (n + m) c, w.setRow g (cur.toList.take (n * i.size) ++ news ++ cur.toList.drop (n * i.size + news.length)).toArray, ?_, ⟨hlen, _, c, rfl, hroom, hm, .inr ⟨g, _, rfl, hb, setRow_heap w g cur _ e _ hh, ?_, ?_⟩⟩, ⟨rfl, rfl, rfl, by simp, fun k _ hk => setRow_other w g k _ (fun e => hk (by simp [Value.ownBlock, e]))⟩, .inl rfl⟩
      · rcases hs.kind with ⟨e', hk⟩ | hk <;> simp [Builtin.append_, run_underlying ht, run_underlying hk, sizeOf, typeInfo, hi, hs.len, hroom, hs.cells, Addr.add_lit, hst]
      · simp only [List.size_toArray, List.length_append, List.length_take, List.length_drop, Array.length_toList]
        omega
      · rw [htk, ← hlen]
        exact List.take_left
  · have hold : (Builtin.firstCells i.size n (.slice A n c)).run P w.drew = .ok xs.toArray w.drew := by
      rcases A with _ | ad
      · have hn0 : n = 0 := by
          rcases hA with ⟨_, h0⟩ | ⟨g, _, h, _⟩
          · omega
          · cases h
        subst hn0
        have h1 : xs = [] := List.eq_nil_of_length_eq_zero (by simpa using hl)
        subst h1
        simp [run_firstCells_none]
      · refine run_firstCells_some (P := P) w.drew i.size n ad n c xs hl (fun j u hu => ?_)
        obtain ⟨ad', e', _, hc'⟩ := hown'.rd j u hu
        injection e' with e'
        subst e'
        exact hc'
    have hr := run_append_grow_src (P := P) w t tx ty e i z ht hi hz A n c xs hold x m news hs (by omega) (by omega) (growslice_fits_wide (by omega) hbytes)
    have hge := grownCap_ge w (n + m) c e
    have hcm : grownCap w (n + m) c e ≤ maxLen := grownCap_le_maxLen w (n + m) c e h63
    refine ⟨_, _, hr, ⟨hlen, _, _, rfl, hge, hcm, .inr ⟨w.heap.size, _, rfl, hbase, heap_alloc_new w.drew _, ?_, ?_⟩⟩, ⟨rfl, rfl, rfl, by simp, fun k hk _ => Below.heap_alloc w.drew _ k hk⟩, .inr rfl⟩
    · rw [Array.size_append, List.size_toArray, size_zeroCells, hzs, hlen, ← Nat.add_mul]
      exact Nat.le_of_eq (by congr 1; omega)
    · rw [Array.toList_append, ← hlen]
      exact List.take_left

theorem wp_append_wide {o : Oper} {a : Act} {K : Act → World → Prop} {Q : Exit → Act → World → Prop} (s x : Operand) (t tx : TypeId)
    (ho : o.op = .call { callee := .builtin .append, args := #[s, x], argTypes := #[t, tx] })
    (base : Nat) (e : TypeId) (i : TypeInfo) (z : Value) (size bytes : Nat) (ht : P.underlying t = some (.slice e)) (hi : P.info? e = some i) (hz : i.zero = some z)
    (hsize : i.size = size) (hby : i.bytes = bytes) (hzs : z.cells.size = size)
    (v : Value) (n : Nat) (xs : List Value) (hs : a.eval s = v) (hown : Own w base e size v n xs)
    (y : Value) (m : Nat) (news : List Value) (hx : a.eval x = y) (hsrc : Src P size tx y m news w)
    (hbytes : ((n + m) + (n + m) / 4 + 192) * bytes ≤ 281474976710656) (h63 : n + m ≤ maxLen) (hbase : base ≤ w.heap.size)
    (h : ∀ v' w', Own w' base e size v' (n + m) (xs ++ news) → Fr (fun k => v.ownBlock = some k) w w' → (v'.ownBlock = v.ownBlock ∨ v'.ownBlock = some w.heap.size) → K (a.put o.dst v') w') : o.wp P a w K Q := by
  obtain ⟨v', w', hrun, h2, h3, h4⟩ := run_append_wide (P := P) w base t tx o.type e i z size bytes ht hi hz hsize hby hzs v n xs hown y m news hsrc hbytes h63 hbase
  unfold Oper.wp execOp
  simp only [ho, resolve, invoke, builtin, Sem.run_bind, Sem.run_pure, Result.andThen_ok, List.map_toArray, List.map_cons, List.map_nil, hs, hx, hrun]
  exact h v' w' h2 h3 h4

theorem wpList_append_wide {ops : Array Oper} {rest : List Oper} {o : Oper} {a : Act} {Q : Exit → Act → World → Prop} (hgd : o.guard = none) (s x : Operand) (t tx : TypeId)
    (ho : o.op = .call { callee := .builtin .append, args := #[s, x], argTypes := #[t, tx] })
    (base : Nat) (e : TypeId) (i : TypeInfo) (z : Value) (size bytes : Nat) (ht : P.underlying t = some (.slice e)) (hi : P.info? e = some i) (hz : i.zero = some z)
    (hsize : i.size = size) (hby : i.bytes = bytes) (hzs : z.cells.size = size)
    (v : Value) (n : Nat) (xs : List Value) (hs : a.eval s = v) (hown : Own w base e size v n xs)
    (y : Value) (m : Nat) (news : List Value) (hx : a.eval x = y) (hsrc : Src P size tx y m news w)
    (hbytes : ((n + m) + (n + m) / 4 + 192) * bytes ≤ 281474976710656) (h63 : n + m ≤ maxLen) (hbase : base ≤ w.heap.size)
    (h : ∀ v' w', Own w' base e size v' (n + m) (xs ++ news) → Fr (fun k => v.ownBlock = some k) w w' → (v'.ownBlock = v.ownBlock ∨ v'.ownBlock = some w.heap.size) → wpList P ops Q rest (a.put o.dst v') w') : wpList P ops Q (o :: rest) a w :=
  wpList_plain hgd fun _ hK => wp_append_wide w s x t tx ho base e i z size bytes ht hi hz hsize hby hzs v n xs hs hown y m news hx hsrc hbytes h63 hbase fun v' w' h2 h3 h4 => hK _ _ (h v' w' h2 h3 h4)


/-- append onto a slice that has no room: a new block, whatever the old one is. -/
theorem run_append_full (base : Nat) (t tx ty e : TypeId) (i : TypeInfo) (z : Value) (size bytes : Nat) (ht : P.underlying t = some (.slice e)) (hi : P.info? e = some i) (hz : i.zero = some z)
    (hsize : i.size = size) (hby : i.bytes = bytes) (hzs : z.cells.size = size)
    (A : Option Addr) (n c B : Nat) (xs : List Value) (hl : xs.length = n * size) (hsz : 0 < size) (hr : Rd w B A xs) (x : Value) (m : Nat) (news : List Value) (hs : Src P size tx x m news w) (hfull : c < n + m)
    (hbytes : ((n + m) + (n + m) / 4 + 192) * bytes ≤ 281474976710656) (h63 : n + m ≤ maxLen) (hbase : base ≤ w.heap.size) :
    ∃ v' w', (Builtin.append_ #[t, tx] ty #[.slice A n c, x]).run P w = .ok v' w' ∧ Own w' base e size v' (n + m) (xs ++ news) ∧ Fr No w w' := by
  subst hsize
  subst hby
  have hlen : (xs ++ news).length = (n + m) * i.size := by rw [List.length_append, hl, hs.newsLen, Nat.add_mul]
  have h63' : n + m ≤ 9223372036854775807 := by simp only [maxLen] at h63; omega
  have hold : (Builtin.firstCells i.size n (.slice A n c)).run P w.drew = .ok xs.toArray w.drew := by
    rcases A with _ | ad
    · have h1 : xs = [] := by
        cases xs with
        | nil => rfl
        | cons u us => obtain ⟨_, h, _⟩ := hr 0 u rfl; cases h
      subst h1
      have hn0 : n = 0 := by
        rcases Nat.mul_eq_zero.1 hl.symm with h | h
        · exact h
        · omega
      subst hn0
      simp [run_firstCells_none]
    · refine run_firstCells_some (P := P) w.drew i.size n ad n c xs hl (fun j u hu => ?_)
      obtain ⟨ad', e', _, hc'⟩ := hr j u hu
      injection e' with e'
      subst e'
      exact hc'
  have hr := run_append_grow_src (P := P) w t tx ty e i z ht hi hz A n c xs hold x m news hs (by omega) (by omega) (growslice_fits_wide (by omega) hbytes)
  have hge := grownCap_ge w (n + m) c e
  have hcm : grownCap w (n + m) c e ≤ maxLen := grownCap_le_maxLen w (n + m) c e h63
  refine ⟨_, _, hr, ⟨hlen, _, _, rfl, hge, hcm, .inr ⟨w.heap.size, _, rfl, hbase, heap_alloc_new w.drew _, ?_, ?_⟩⟩, ⟨rfl, rfl, rfl, by simp, fun k hk _ => Below.heap_alloc w.drew _ k hk⟩⟩
  · rw [Array.size_append, List.size_toArray, size_zeroCells, hzs, hlen, ← Nat.add_mul]
    exact Nat.le_of_eq (by congr 1; omega)
  · rw [Array.toList_append, ← hlen]
    exact List.take_left
theorem wpList_append_full {ops : Array Oper} {rest : List Oper} {o : Oper} {a : Act} {Q : Exit → Act → World → Prop} (hgd : o.guard = none) (s x : Operand) (t tx : TypeId)
    (ho : o.op = .call { callee := .builtin .append, args := #[s, x], argTypes := #[t, tx] })
    (base : Nat) (e : TypeId) (i : TypeInfo) (z : Value) (size bytes : Nat) (ht : P.underlying t = some (.slice e)) (hi : P.info? e = some i) (hz : i.zero = some z)
    (hsize : i.size = size) (hby : i.bytes = bytes) (hzs : z.cells.size = size)
    (A : Option Addr) (n c B : Nat) (xs : List Value) (hs : a.eval s = .slice A n c) (hl : xs.length = n * size) (hsz : 0 < size) (hr : Rd w B A xs)
    (y : Value) (m : Nat) (news : List Value) (hx : a.eval x = y) (hsrc : Src P size tx y m news w) (hfull : c < n + m)
    (hbytes : ((n + m) + (n + m) / 4 + 192) * bytes ≤ 281474976710656) (h63 : n + m ≤ maxLen) (hbase : base ≤ w.heap.size)
    (h : ∀ v' w', Own w' base e size v' (n + m) (xs ++ news) → Fr No w w' → wpList P ops Q rest (a.put o.dst v') w') : wpList P ops Q (o :: rest) a w :=
  wpList_plain hgd fun _ hK => by
    obtain ⟨v', w', hrun, h2, h3⟩ := run_append_full (P := P) w base t tx o.type e i z size bytes ht hi hz hsize hby hzs A n c B xs hl hsz hr y m news hsrc hfull hbytes h63 hbase
    unfold Oper.wp execOp
    simp only [ho, resolve, invoke, builtin, Sem.run_bind, Sem.run_pure, Result.andThen_ok, List.map_toArray, List.map_cons, List.map_nil, hs, hx, hrun]
    exact hK _ _ (h v' w' h2 h3)
end
/-- new bytes, as a literal lays them. -/
theorem own_new8 (w : World) (cs : Array Value) (n : Nat) (bs : List UInt8) (e : TypeId) (h : cs.toList = by8 bs) (hn : bs.length = n) (hm : n ≤ maxLen) :
    Own (w.alloc (.cells cs e)) w.heap.size e 1 (.slice (some ⟨w.heap.size, 0, none⟩) n n) n (by8 bs) := by
  subst hn
  have hl : cs.size = bs.length := by
    have := congrArg List.length h
    rw [by8_length] at this
    simpa using this
  exact ⟨by rw [by8_length, Nat.mul_one], _, _, rfl, Nat.le_refl _, hm, .inr ⟨w.heap.size, cs, rfl, Nat.le_refl _, heap_alloc_new w _, by omega, by rw [h, Nat.mul_one, List.take_of_length_le (by rw [by8_length]; exact Nat.le_refl _)]⟩⟩
/-- a block's cells, as they stand. -/
theorem Rd.block {w : World} {g : Nat} {cs : Array Value} {e : TypeId} {fz : Nat × Nat} (hg : w.heap[g]? = some (.cells cs e fz)) : Rd w (g + 1) (some ⟨g, 0, none⟩) cs.toList := fun j u hu => by
  refine ⟨_, rfl, by simp, ?_⟩
  rw [Addr.add_lit, Nat.zero_add, cell_of_row w g j cs e fz hg]
  simpa using hu
end Go.Proofs.YtnjcncidlhllmaaGreat
namespace Go.Proofs.YtnjcncidlhllmaaGreat
set_option linter.unusedVariables false
set_option linter.unusedSimpArgs false
open Go.RowKit

theorem Fr.setRow (w : World) (g : Nat) (cs : Array Value) : Fr (Is g) w (w.setRow g cs) :=
  ⟨rfl, rfl, rfl, by simp, fun k _ hk => setRow_other w g k _ hk⟩

/-- lists of bytes that are read. -/
def BSl (w : World) (B : Nat) (A : Option Addr) (bss : List (List UInt8)) : Prop :=
  ∀ j bs, bss[j]? = some bs → ∃ ad Aj cj, A = some ad ∧ ad.block < B ∧ w.cell? (ad.add j) = some (.slice Aj bs.length cj) ∧ bs.length ≤ cj ∧ cj ≤ maxLen ∧ Rd w B Aj (by8 bs)
theorem BSl.fr {S : Nat → Prop} {w w' : World} {B : Nat} {A : Option Addr} {bss : List (List UInt8)} (h : BSl w B A bss) (f : Fr S w w') (hS : ∀ k, k < B → ¬ S k) : BSl w' B A bss := fun j bs hj => by
  obtain ⟨ad, Aj, cj, e, hb, hc, h1, h2, hr⟩ := h j bs hj
  exact ⟨ad, Aj, cj, e, hb, f.cell hc (by rw [block_of_add]; exact hS _ hb), h1, h2, hr.fr f hS⟩
theorem BSl.fr0 {w w' : World} {B : Nat} {A : Option Addr} {bss : List (List UInt8)} (h : BSl w B A bss) (f : Fr No w w') : BSl w' B A bss := h.fr f (fun _ _ h => h)
theorem BSl.more {w : World} {B B' : Nat} {A : Option Addr} {bss : List (List UInt8)} (h : BSl w B A bss) (hB : B ≤ B') : BSl w B' A bss := fun j bs hj => by
  obtain ⟨ad, Aj, cj, e, hb, hc, h1, h2, hr⟩ := h j bs hj
  exact ⟨ad, Aj, cj, e, by omega, hc, h1, h2, hr.more hB⟩

theorem BSl.single {w : World} {B n c : Nat} {A : Option Addr} {bs : List UInt8} {e : TypeId} (hn : bs.length = n) (h1 : n ≤ c) (h2 : c ≤ maxLen) (hr : Rd w B A (by8 bs)) (hB : B ≤ w.heap.size) : BSl (w.alloc (.cells #[.slice A n c] e)) (w.heap.size + 1) (some ⟨w.heap.size, 0, none⟩) [bs] := by
  subst hn
  intro j bs' hj
  cases j with
  | zero =>
    injection hj with hj
    subst hj
    refine ⟨_, A, c, rfl, by simp, ?_, h1, h2, (hr.fr0 ((Fr.refl _ _).alloc _)).more (by omega)⟩
    rw [Addr.add_lit, cell_of_row _ w.heap.size (0 + 0) #[.slice A bs.length c] e (0, 0) (heap_alloc_new w _)]
    rfl
  | succ j => simp at hj

end Go.Proofs.YtnjcncidlhllmaaGreat
namespace Go.Proofs.YtnjcncidlhllmaaGreat
set_option linter.unusedVariables false
set_option linter.unusedSimpArgs false
open Go.RowKit


/-- rows of memory that are apart. -/
structure Apart (m : Nat) (A : Nat → Option Addr) (N C : Nat → Nat) : Prop where
  dis : ∀ i j, i < m → j < m → i ≠ j → ∀ k, (Value.slice (A i) (N i) (C i)).ownBlock = some k → (Value.slice (A j) (N j) (C j)).ownBlock ≠ some k
def Owns (w : World) (base e m : Nat) (A : Nat → Option Addr) (N C : Nat → Nat) (Z : Nat → List Value) : Prop := ∀ j, j < m → Own w base e 1 (.slice (A j) (N j) (C j)) (N j) (Z j)
/-- the blocks of rows. -/
def Blocks (m : Nat) (A : Nat → Option Addr) (N C : Nat → Nat) : Nat → Prop := fun k => ∃ j, j < m ∧ (Value.slice (A j) (N j) (C j)).ownBlock = some k
def upd (Z : Nat → List Value) (i : Nat) (z : List Value) : Nat → List Value := fun j => if j = i then z else Z j
theorem upd_same (Z : Nat → List Value) (i : Nat) (z : List Value) : upd Z i z i = z := if_pos rfl
theorem upd_other (Z : Nat → List Value) {i j : Nat} (z : List Value) (h : j ≠ i) : upd Z i z j = Z j := if_neg h

section
variable {w : World} {base e m : Nat} {A : Nat → Option Addr} {N C : Nat → Nat} {Z : Nat → List Value}
theorem Owns.store (h : Owns w base e m A N C Z) (ha : Apart m A N C) {i k : Nat} (hi : i < m) (hk : k < N i) :
    ∃ g, A i = some ⟨g, 0, none⟩ ∧ g < w.heap.size ∧ w.cell? ⟨g, k, none⟩ = (Z i)[k]? ∧ w.frozen? ⟨g, k, none⟩ = false ∧
      (∀ q cs t fz, w.heap[q]? = some (.cells cs t fz) → e ≠ t → g ≠ q) ∧
      ∀ v : Value, Owns (w.setCell ⟨g, k, none⟩ v) base e m A N C (upd Z i ((Z i).set k v)) ∧ Fr (Blocks m A N C) w (w.setCell ⟨g, k, none⟩ v) := by
  obtain ⟨g, hA, hb, hl, hc, hf, hs⟩ := (h i hi).store hk
  have hob : (Value.slice (A i) (N i) (C i)).ownBlock = some g := by rw [hA]; rfl
  refine ⟨g, hA, hl, hc, hf, ?_, ?_⟩
  · rintro q cs t fz hq hne rfl
    exact (h i hi).ne_blk hob hq hne
  · intro v
    refine ⟨?_, (Fr.refl _ _).setCell (p := ⟨g, k, none⟩) (fun _ => ⟨i, hi, hob⟩) v⟩
    intro j hj
    by_cases hij : j = i
    · subst hij
      rw [upd_same]
      exact hs v
    · rw [upd_other _ _ hij]
      refine (h j hj).fr ((Fr.refl (Is g) w).setCell (p := ⟨g, k, none⟩) (fun _ => rfl) v) ?_
      rintro g' hg' rfl
      exact ha.dis i j hi hj (fun e => hij e.symm) _ hob hg'
end

/-- what is written. -/
def mk1 (j n : Nat) : List Value := (List.range n).map fun k : Nat => .int .u8 ((37 * (j : Int) + (k : Int)) % 256)
def mk2 (j : Nat) : List Value := (List.range 70).map fun k : Nat => .int .u8 ((11 * (j : Int) + (k : Int)) % 256)
theorem mk1_at {j n k : Nat} (h : k < n) : (mk1 j n)[k]? = some (.int .u8 ((37 * (j : Int) + (k : Int)) % 256)) := by simp [mk1, List.getElem?_range h]
theorem mk2_at {j k : Nat} (h : k < 70) : (mk2 j)[k]? = some (.int .u8 ((11 * (j : Int) + (k : Int)) % 256)) := by simp [mk2, List.getElem?_range h]
theorem mk1_len (j n : Nat) : (mk1 j n).length = n := by simp [mk1]
theorem mk2_len (j : Nat) : (mk2 j).length = 70 := by simp [mk2]
theorem take_set_snoc {z y : List Value} {k : Nat} {v : Value} (h : z.take k = y.take k) (hy : y[k]? = some v) (hk : k < z.length) : (z.set k v).take (k + 1) = y.take (k + 1) := by
  obtain ⟨hl, rfl⟩ := List.getElem?_eq_some_iff.1 hy
  rw [List.take_succ_eq_append_getElem (by simpa using hk), List.take_succ_eq_append_getElem hl, List.take_set_of_le (by omega), h]
  simp

theorem Own.ne_own {w : World} {b1 e1 s1 n1 b2 e2 s2 n2 : Nat} {v1 v2 : Value} {x1 x2 : List Value} (h1 : Own w b1 e1 s1 v1 n1 x1) (h2 : Own w b2 e2 s2 v2 n2 x2) (hne : e1 ≠ e2) {k : Nat} (hk : v2.ownBlock = some k) : v1.ownBlock ≠ some k := by
  intro hk1
  obtain ⟨_, A, c, rfl, _, _, hA⟩ := h2
  rcases hA with ⟨rfl, _⟩ | ⟨g, cur, rfl, hb, hh, _⟩
  · simp [Value.ownBlock] at hk
  · have e : g = k := Option.some.inj hk
    subst e
    exact h1.ne_blk hk1 hh hne
theorem Rd.fr2 {w w' : World} {B : Nat} {A : Option Addr} {xs : List Value} {S : Nat → Prop} (h : Rd w B A xs) (f : Fr S w w') (hS : ∀ ad, A = some ad → ¬ S ad.block) : Rd w' B A xs := fun j u hu => by
  obtain ⟨ad, e, hb, hc⟩ := h j u hu
  exact ⟨ad, e, hb, f.cell hc (by rw [block_of_add]; exact hS ad e)⟩
theorem own_at {A : Option Addr} {n c : Nat} {ad : Addr} (h : A = some ad) (h0 : ad.spot = none ∧ ad.off = 0) : (Value.slice A n c).ownBlock = some ad.block := by subst h; rfl
theorem Own.rdAt {w : World} {base e n : Nat} {v : Value} {xs : List Value} {g : Nat} (h : Own w base e 1 v n xs) (hg : v.ownBlock = some g) : Rd w w.heap.size (some ⟨g, 0, none⟩) xs := by
  obtain ⟨A, c, rfl, _, _, _, hr, _⟩ := h.form
  rcases h.mem with ⟨rfl, _⟩ | ⟨g', rfl, e⟩
  · simp [Value.ownBlock] at hg
  · have : g' = g := Option.some.inj (e.symm.trans hg)
    subst this
    exact hr

theorem apart_step {wi wr w' : World} {o : Obj} {M e nn : Nat} {Ai : Option Addr} {V l v' : Value} {xs ys : List Value} (hM : M ≤ wi.heap.size)
    (LT : ∀ k, V.ownBlock = some k → k < M) (AI : Ai = none ∧ xs = [] ∨ ∃ g, Ai = some ⟨g, 0, none⟩ ∧ V.ownBlock = some g)
    (I2 : l.ownBlock = V.ownBlock ∨ ∀ g, l.ownBlock = some g → wi.heap.size ≤ g) (I3 : Rd wr M Ai xs) (I4 : Fr (fun k => V.ownBlock = some k) wi wr)
    (ho : Own w' 0 e 1 v' nn (xs ++ ys)) (hat : (v'.ownBlock = l.ownBlock ∧ Fr (fun k => l.ownBlock = some k) (wr.alloc o) w') ∨ (v'.ownBlock = some (wr.alloc o).heap.size ∧ Fr No (wr.alloc o) w')) :
    (v'.ownBlock = V.ownBlock ∨ ∀ g, v'.ownBlock = some g → wi.heap.size ≤ g) ∧ Rd w' M Ai xs ∧ Fr (fun k => V.ownBlock = some k) wi w' := by
  have h4 := I4.alloc o
  have h3 : Rd (wr.alloc o) M Ai xs := I3.fr0 ((Fr.refl No wr).alloc o)
  have hs := I4.size
  rcases hat with ⟨he, hf⟩ | ⟨he, hf⟩
  · refine ⟨by rw [he]; exact I2, ?_, ?_⟩
    · rcases AI with ⟨_, rfl⟩ | ⟨g, hA, hV⟩
      · exact Rd.nil _ _ _
      · rcases I2 with h2 | h2
        · have hr := (ho.rdAt (he.trans (h2.trans hV))).tk xs.length
          rw [List.take_left] at hr
          intro j u hu
          obtain ⟨ad, e1, hb, _⟩ := I3 j u hu
          obtain ⟨ad', e2, _, hc⟩ := hr j u hu
          rw [hA] at e1
          have e3 : ad' = ad := Option.some.inj (e2.symm.trans e1)
          subst e3
          exact ⟨ad', hA.trans e1, hb, hc⟩
        · refine h3.fr2 hf ?_
          intro ad had hl
          have := h2 _ hl
          rw [hA] at had
          have e3 := Option.some.inj had
          have := LT g hV
          rw [← e3] at hl
          have := h2 _ hl
          simp at this
          omega
    · refine h4.trans hf ?_
      intro i hi hl
      rcases I2 with h2 | h2
      · exact h2.symm.trans hl
      · have := h2 i hl
        omega
  · refine ⟨.inr ?_, h3.fr0 hf, h4.tr hf⟩
    intro g hg
    have := Option.some.inj (he.symm.trans hg)
    simp at this
    omega
def updV (L : Nat → Value) (i : Nat) (l : Value) : Nat → Value := fun j => if j = i then l else L j
theorem updV_same (L : Nat → Value) (i : Nat) (l : Value) : updV L i l i = l := if_pos rfl
theorem updV_other (L : Nat → Value) {i j : Nat} (l : Value) (h : j ≠ i) : updV L i l j = L j := if_neg h
theorem map_snoc {L : Nat → Value} {i : Nat} (l : Value) : (List.range i).map L ++ [l] = (List.range (i + 1)).map (updV L i l) := by
  rw [List.range_succ, List.map_append]
  congr 1
  · apply List.map_congr_left
    intro j hj
    have : j < i := by simpa using hj
    rw [updV_other _ _ (by omega)]
  · simp [updV_same]
theorem take_snoc_at {y : List Value} {k : Nat} {v : Value} (hy : y[k]? = some v) : y.take k ++ [v] = y.take (k + 1) := by
  obtain ⟨hl, rfl⟩ := List.getElem?_eq_some_iff.1 hy
  rw [List.take_succ_eq_append_getElem hl]

end Go.Proofs.YtnjcncidlhllmaaGreat
namespace Go.Proofs.YtnjcncidlhllmaaGreat
set_option linter.unusedVariables false
set_option linter.unusedSimpArgs false
open Go.RowKit

theorem Own.apart {w : World} {b1 b2 e1 e2 s1 s2 n1 n2 : Nat} {v1 v2 : Value} {xs1 xs2 : List Value} (h1 : Own w b1 e1 s1 v1 n1 xs1) (h2 : Own w b2 e2 s2 v2 n2 xs2) (hne : e1 ≠ e2) : ∀ k, v1.ownBlock = some k → v2.ownBlock ≠ some k := by
  intro k hk hk2
  obtain ⟨_, A, c, rfl, _, _, hA⟩ := h2
  rcases hA with ⟨rfl, _⟩ | ⟨g, cur, rfl, _, hh, _⟩
  · simp [Value.ownBlock] at hk2
  · have e : g = k := Option.some.inj hk2
    subst e
    exact h1.ne_blk hk hh hne
theorem Own.above {S : Nat → Prop} {w w' : World} {base e size n : Nat} {v : Value} {xs : List Value} (h : Own w base e size v n xs) (f : Fr S w w') (hS : ∀ k, S k → k < base) : Own w' base e size v n xs :=
  h.fr f (fun k hk e => by have := (h.lt k hk).1; have := hS k e; omega)
theorem made_own (w : World) (k : Nat) (e : TypeId) (v : Value) (z : Array Value) (hz : z = #[v]) (hk : k ≤ maxLen) : Own (w.alloc (.cells (madeCells z k) e)) w.heap.size e 1 (.slice (some ⟨w.heap.size, 0, none⟩) k k) k (List.replicate k v) := by
  subst hz
  refine ⟨by simp, _, _, rfl, Nat.le_refl _, hk, .inr ⟨w.heap.size, _, rfl, Nat.le_refl _, heap_alloc_new w _, by rw [size_madeCells]; omega, ?_⟩⟩
  rw [Nat.mul_one, List.take_of_length_le (by rw [Array.length_toList, size_madeCells]; omega)]
  apply List.ext_getElem
  · simp [madeCells]
  · intro i h1 h2
    simp [madeCells, Nat.mod_one]

theorem Fr.putO (w : World) (G j n c : Nat) (v : Value) : Fr (fun k => (Value.slice (some ⟨G, 0, none⟩) n c).ownBlock = some k) w (w.setCell ⟨G, j, none⟩ v) :=
  (Fr.refl (fun k => (Value.slice (some ⟨G, 0, none⟩) n c).ownBlock = some k) w).setCell (p := ⟨G, j, none⟩) (fun _ => (rfl : some G = some G)) v
theorem Own.some_at {w : World} {base e n : Nat} {v : Value} {xs : List Value} (h : Own w base e 1 v n xs) {k : Nat} (hk : k < n) : ∃ u, xs[k]? = some u :=
  ⟨_, List.getElem?_eq_getElem (by have := h.1; omega)⟩
/-- integers as cells. -/
def ints (l : List Nat) : List Value := l.map fun (n : Nat) => .int .i64 n
end Go.Proofs.YtnjcncidlhllmaaGreat
namespace Go.Proofs.YtnjcncidlhllmaaGreat
theorem Tryz.infoKU64 : (Tryz.prog.info? 79).map (fun i => (i.zero, i.size, i.bytes)) = some (some (.int .u64 0), 1, 8) := by kernel_rfl
end Go.Proofs.YtnjcncidlhllmaaGreat
