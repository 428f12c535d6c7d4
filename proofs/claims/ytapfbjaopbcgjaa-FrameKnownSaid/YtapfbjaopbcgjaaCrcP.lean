/- The check of bytes (four bits at a time, or bit by bit), in plain Lean: both are one; a burst of at most 32 bits is seen. -/
import Derived.Test.YtapfbjaopbcgjaaMem3
namespace Go.Proofs.Ytapfbjaopbcgjaa
set_option linter.unusedVariables false
set_option linter.unusedSimpArgs false
theorem xor_mod2 (a b : Nat) : (a ^^^ b) % 2 = (a + b) % 2 := by
  have h := Nat.testBit_xor a b 0
  simp only [Nat.testBit_zero] at h
  rcases Nat.mod_two_eq_zero_or_one a with ha | ha <;> rcases Nat.mod_two_eq_zero_or_one b with hb | hb <;> rcases Nat.mod_two_eq_zero_or_one (a ^^^ b) with hc | hc <;> simp [ha, hb, hc] at h <;> omega
theorem xor_div2 (a b : Nat) : (a ^^^ b) / 2 = a / 2 ^^^ b / 2 := by
  apply Nat.eq_of_testBit_eq
  intro i
  simp [Nat.testBit_div_two, Nat.testBit_xor]

/-- one step of the check. -/
def crc1 (c : Nat) : Nat := c / 2 ^^^ 3988292384 * (c % 2)
def crcN : Nat → Nat → Nat
  | 0, c => c
  | k + 1, c => crcN k (crc1 c)
theorem crc1_xor (a b : Nat) : crc1 (a ^^^ b) = crc1 a ^^^ crc1 b := by
  unfold crc1
  rw [xor_div2]
  have e : 3988292384 * ((a ^^^ b) % 2) = (3988292384 * (a % 2)) ^^^ (3988292384 * (b % 2)) := by
    rw [xor_mod2]
    rcases Nat.mod_two_eq_zero_or_one a with ha | ha <;> rcases Nat.mod_two_eq_zero_or_one b with hb | hb
    · rw [show (a + b) % 2 = 0 by omega, ha, hb]; simp
    · rw [show (a + b) % 2 = 1 by omega, ha, hb]; simp
    · rw [show (a + b) % 2 = 1 by omega, ha, hb]; simp
    · rw [show (a + b) % 2 = 0 by omega, ha, hb]; simp
  rw [e]
  simp only [Nat.xor_assoc]
  rw [← Nat.xor_assoc (b / 2) _ _, Nat.xor_comm (b / 2) (3988292384 * (a % 2)), Nat.xor_assoc]
theorem crcN_xor : ∀ (k a b : Nat), crcN k (a ^^^ b) = crcN k a ^^^ crcN k b
  | 0, _, _ => rfl
  | k + 1, a, b => by
    show crcN k (crc1 (a ^^^ b)) = crcN k (crc1 a) ^^^ crcN k (crc1 b)
    rw [crc1_xor, crcN_xor k]
theorem crc1_two (c : Nat) : crc1 (2 * c) = c := by
  unfold crc1
  rw [show 2 * c % 2 = 0 by omega, show 2 * c / 2 = c by omega]
  simp
theorem crcN_pow : ∀ (k c : Nat), crcN k (2 ^ k * c) = c
  | 0, c => by simp [crcN]
  | k + 1, c => by
    show crcN k (crc1 (2 ^ (k + 1) * c)) = c
    rw [show 2 ^ (k + 1) * c = 2 * (2 ^ k * c) by rw [Nat.pow_succ, Nat.mul_comm (2 ^ k) 2, Nat.mul_assoc], crc1_two, crcN_pow k]
theorem crcN_zero (k : Nat) : crcN k 0 = 0 := by
  have := crcN_pow k 0
  simpa using this
theorem crcN_add : ∀ (j k c : Nat), crcN (j + k) c = crcN k (crcN j c)
  | 0, k, c => by simp [crcN]
  | j + 1, k, c => by
    rw [show j + 1 + k = (j + k) + 1 by omega]
    show crcN (j + k) (crc1 c) = crcN k (crcN j (crc1 c))
    exact crcN_add j k _
theorem crc1_lt {c : Nat} (h : c < 4294967296) : crc1 c < 4294967296 := by
  unfold crc1
  have h1 : c / 2 < 2 ^ 32 := by omega
  have h2 : 3988292384 * (c % 2) < 2 ^ 32 := by omega
  exact Nat.xor_lt_two_pow h1 h2
theorem crcN_lt : ∀ (k : Nat) {c : Nat}, c < 4294967296 → crcN k c < 4294967296
  | 0, _, h => h
  | k + 1, _, h => crcN_lt k (crc1_lt h)
theorem crc1_ne {c : Nat} (h : c < 4294967296) (h0 : c ≠ 0) : crc1 c ≠ 0 := by
  intro he
  unfold crc1 at he
  rcases Nat.mod_two_eq_zero_or_one c with hc | hc
  · rw [hc] at he
    simp at he
    omega
  · rw [hc, Nat.mul_one] at he
    have h1 : c / 2 = 3988292384 := by
      have := congrArg (· ^^^ 3988292384) he
      simpa [Nat.xor_assoc] using this
    omega
theorem crcN_ne : ∀ (k : Nat) {c : Nat}, c < 4294967296 → c ≠ 0 → crcN k c ≠ 0
  | 0, _, _, h0 => h0
  | k + 1, _, h, h0 => crcN_ne k (crc1_lt h) (crc1_ne h h0)
theorem xor_zero_eq {a b : Nat} (h : a ^^^ b = 0) : a = b := by
  have := congrArg (· ^^^ b) h
  simpa [Nat.xor_assoc] using this
theorem xor_lt32 {a b : Nat} (ha : a < 4294967296) (hb : b < 4294967296) : a ^^^ b < 4294967296 := Nat.xor_lt_two_pow (n := 32) ha hb
theorem crcN_inj (k : Nat) {a b : Nat} (ha : a < 4294967296) (hb : b < 4294967296) (h : crcN k a = crcN k b) : a = b := by
  by_cases he : a = b
  · exact he
  · exfalso
    refine crcN_ne k (c := a ^^^ b) (xor_lt32 ha hb) (fun h0 => he (xor_zero_eq h0)) ?_
    rw [crcN_xor, h, Nat.xor_self]
theorem xor_split (k c : Nat) : c = (2 ^ k * (c / 2 ^ k)) ^^^ (c % 2 ^ k) := by
  apply Nat.eq_of_testBit_eq
  intro i
  rw [Nat.testBit_xor, Nat.testBit_mod_two_pow, Nat.mul_comm, Nat.testBit_mul_two_pow, Nat.testBit_div_two_pow]
  by_cases h : i < k
  · simp [h, show ¬ k ≤ i by omega]
  · simp [h, show k ≤ i by omega]
theorem crcN_split (k c : Nat) : crcN k c = c / 2 ^ k ^^^ crcN k (c % 2 ^ k) := by
  conv => lhs; rw [xor_split k c]
  rw [crcN_xor, crcN_pow]
/-- four bits at once, by the table. -/
theorem crc4 (c : Nat) : crcN 4 c = c / 16 ^^^ crcN 4 (c % 16) := crcN_split 4 c
theorem crc8 (c : Nat) : crcN 8 c = crcN 4 (crcN 4 c) := crcN_add 4 4 c
/-- bit by bit, as the document has it. -/
theorem crc_bit {c0 b c k : Nat} (h : crcN k (c0 ^^^ b) = c ^^^ b / 2 ^ k) :
    crcN (k + 1) (c0 ^^^ b) = (if c % 2 = b / 2 ^ k % 2 then c / 2 else c / 2 ^^^ 3988292384) ^^^ b / 2 ^ (k + 1) := by
  rw [crcN_add k 1, h]
  show crc1 (c ^^^ b / 2 ^ k) = _
  unfold crc1
  rw [xor_div2, xor_mod2, Nat.div_div_eq_div_mul, ← Nat.pow_succ]
  split
  · rw [show (c + b / 2 ^ k) % 2 = 0 by omega]; simp
  · rw [show (c + b / 2 ^ k) % 2 = 1 by omega, Nat.mul_one, Nat.xor_assoc, Nat.xor_assoc, Nat.xor_comm 3988292384]
/-- the register over bytes. -/
def reg (c : Nat) (bs : List UInt8) : Nat := bs.foldl (fun c b => crcN 8 (c ^^^ b.toNat)) c
def crcOf (bs : List UInt8) : Nat := reg 4294967295 bs ^^^ 4294967295
def leVal : List UInt8 → Nat
  | [] => 0
  | b :: r => b.toNat + 256 * leVal r
theorem reg_cons (c : Nat) (b : UInt8) (r : List UInt8) : reg c (b :: r) = reg (crcN 8 (c ^^^ b.toNat)) r := rfl
theorem reg_append (c : Nat) (a b : List UInt8) : reg c (a ++ b) = reg (reg c a) b := by unfold reg; rw [List.foldl_append]
theorem reg_snoc (c : Nat) (a : List UInt8) (b : UInt8) : reg c (a ++ [b]) = crcN 8 (reg c a ^^^ b.toNat) := by rw [reg_append]; rfl
theorem reg_lt : ∀ (bs : List UInt8) {c : Nat}, c < 4294967296 → reg c bs < 4294967296
  | [], _, h => h
  | b :: r, _, h => reg_lt r (crcN_lt 8 (xor_lt32 h (by have := b.toNat_lt; omega)))
theorem crcOf_lt (bs : List UInt8) : crcOf bs < 4294967296 := xor_lt32 (reg_lt bs (by decide)) (by decide)
theorem add_xor {b v : Nat} (h : b < 256) : b + 256 * v = b ^^^ 256 * v := by
  have h1 := xor_split 8 (b + 256 * v)
  rw [show (2 : Nat) ^ 8 = 256 from rfl, show (b + 256 * v) / 256 = v by omega, show (b + 256 * v) % 256 = b by omega] at h1
  rw [h1, Nat.xor_comm]
theorem reg_val : ∀ (bs : List UInt8) (c : Nat), reg c bs = crcN (8 * bs.length) (c ^^^ leVal bs)
  | [], c => by simp [reg, leVal, crcN]
  | b :: r, c => by
    rw [reg_cons, reg_val r, leVal, add_xor b.toNat_lt, List.length_cons, show 8 * (r.length + 1) = 8 + 8 * r.length by omega, crcN_add 8, ← Nat.xor_assoc, crcN_xor 8 _ (256 * leVal r), crcN_pow 8]
theorem leVal_append : ∀ (a b : List UInt8), leVal (a ++ b) = leVal a + 2 ^ (8 * a.length) * leVal b
  | [], b => by simp [leVal]
  | x :: r, b => by
    rw [List.cons_append, leVal, leVal, leVal_append r b, List.length_cons, show 8 * (r.length + 1) = 8 * r.length + 8 by omega, Nat.pow_add, Nat.mul_add, Nat.add_assoc]
    congr 2
    rw [← Nat.mul_assoc, Nat.mul_comm 256]
theorem leVal_lt : ∀ (a : List UInt8), leVal a < 2 ^ (8 * a.length)
  | [] => by simp [leVal]
  | x :: r => by
    have h := leVal_lt r
    have := x.toNat_lt
    rw [leVal, List.length_cons, show 8 * (r.length + 1) = 8 * r.length + 8 by omega, Nat.pow_add]
    omega
theorem leVal_inj : ∀ {a b : List UInt8}, a.length = b.length → leVal a = leVal b → a = b
  | [], [], _, _ => rfl
  | x :: r, y :: s, h, e => by
    rw [leVal, leVal] at e
    have hx := x.toNat_lt
    have hy := y.toNat_lt
    rw [leVal_inj (a := r) (b := s) (by simpa using h) (by omega), UInt8.toNat_inj.1 (show x.toNat = y.toNat by omega)]
  | [], _ :: _, h, _ => by simp at h
  | _ :: _, [], h, _ => by simp at h
/-- a check's four bytes. -/
def fourB (n : Nat) : List UInt8 := [UInt8.ofNat (n % 256), UInt8.ofNat (n / 256 % 256), UInt8.ofNat (n / 65536 % 256), UInt8.ofNat (n / 16777216 % 256)]
theorem leVal_four {n : Nat} (h : n < 4294967296) : leVal (fourB n) = n := by
  simp only [fourB, leVal, UInt8.toNat_ofNat']
  omega
/-- a file is whole just if its register is one number. -/
theorem whole_iff (a t : List UInt8) (ht : t.length = 4) : t = fourB (crcOf a) ↔ reg 4294967295 (a ++ t) = crcN 32 4294967295 := by
  have hr := reg_lt a (c := 4294967295) (by decide)
  have hv : leVal t < 4294967296 := by have := leVal_lt t; rw [ht] at this; simpa using this
  rw [reg_append, reg_val t, ht]
  constructor
  · intro h
    subst h
    rw [leVal_four (crcOf_lt a)]
    unfold crcOf
    rw [← Nat.xor_assoc, Nat.xor_self, Nat.zero_xor]
  · intro h
    have h1 := crcN_inj 32 (xor_lt32 hr hv) (by decide) h
    refine leVal_inj (by rw [ht]; rfl) ?_
    rw [leVal_four (crcOf_lt a)]
    unfold crcOf
    have h2 := congrArg (reg 4294967295 a ^^^ ·) h1
    simp only [← Nat.xor_assoc, Nat.xor_self, Nat.zero_xor] at h2
    exact h2
/-- one burst of at most 32 bits makes a whole file none. -/
theorem burst_bad {f c : List UInt8} {w from_ : Nat} (hl : c.length = f.length) (h4 : 4 ≤ f.length) (hf : f.drop (f.length - 4) = fourB (crcOf (f.take (f.length - 4))))
    (hw : 0 < w) (hw2 : w < 4294967296) (hfr : from_ ≤ 8 * f.length) (hc : leVal c = leVal f ^^^ w * 2 ^ from_) : c.drop (c.length - 4) ≠ fourB (crcOf (c.take (c.length - 4))) := by
  intro h
  have h1 := (whole_iff _ _ (by rw [List.length_drop]; omega)).1 hf
  have h2 := (whole_iff _ _ (by rw [List.length_drop]; omega)).1 h
  rw [List.take_append_drop, reg_val] at h1 h2
  rw [hl, hc, ← Nat.xor_assoc, crcN_xor _ (4294967295 ^^^ leVal f), h1] at h2
  have h3 : crcN (8 * f.length) (w * 2 ^ from_) = 0 := by
    have := congrArg (crcN 32 4294967295 ^^^ ·) h2
    simpa [← Nat.xor_assoc] using this
  rw [show 8 * f.length = from_ + (8 * f.length - from_) by omega, crcN_add, Nat.mul_comm w, crcN_pow] at h3
  exact crcN_ne _ hw2 (by omega) h3
end Go.Proofs.Ytapfbjaopbcgjaa
