/- How many bits are set, as math/bits reckons it; in plain Lean. -/
import Derived.Test.YtapfbjaopbcgjaaDoorWordsP
namespace Go.Proofs.YtapfbjaopbcgjaaDoor
set_option linter.unusedVariables false
set_option linter.unusedSimpArgs false
open Go.RowKit

/-- bits set below k. -/
def cntN (f : Nat → Bool) : Nat → Nat
  | 0 => 0
  | k + 1 => cntN f k + if f k = true then 1 else 0
theorem cntN_congr {f g : Nat → Bool} : ∀ {k : Nat}, (∀ j, j < k → f j = g j) → cntN f k = cntN g k
  | 0, _ => rfl
  | k + 1, h => by rw [cntN, cntN, cntN_congr (fun j hj => h j (by omega)), h k (by omega)]
theorem cntN_add (f : Nat → Bool) (a : Nat) : ∀ b, cntN f (a + b) = cntN f a + cntN (fun j => f (a + j)) b
  | 0 => rfl
  | b + 1 => by rw [← Nat.add_assoc, cntN, cntN_add f a b, cntN, Nat.add_assoc]
theorem cntN_le (f : Nat → Bool) : ∀ k, cntN f k ≤ k
  | 0 => Nat.le_refl _
  | k + 1 => by
    have := cntN_le f k
    rw [cntN]
    split <;> omega

theorem and_byte (a M b : Nat) (hb : b < 256) : a &&& (256 * M + b) = 256 * (a / 256 &&& M) + (a % 256 &&& b) := by
  have h1 : (a &&& (256 * M + b)) / 2 ^ 8 = a / 2 ^ 8 &&& (256 * M + b) / 2 ^ 8 := Nat.and_div_two_pow
  have h2 : (a &&& (256 * M + b)) % 2 ^ 8 = a % 2 ^ 8 &&& (256 * M + b) % 2 ^ 8 := Nat.and_mod_two_pow
  rw [show (2 : Nat) ^ 8 = 256 from rfl, show (256 * M + b) / 256 = M by omega] at h1
  rw [show (2 : Nat) ^ 8 = 256 from rfl, show (256 * M + b) % 256 = b by omega] at h2
  rw [← h1, ← h2, Nat.div_add_mod]
def mkM (b : Nat) : Nat → Nat
  | 0 => 0
  | n + 1 => 256 * mkM b n + b

/-- one byte's steps. -/
def b1 (r : Nat) : Nat := (r / 2 &&& 85) + (r &&& 85)
def b2 (r : Nat) : Nat := (r / 4 &&& 51) + (r &&& 51)
def b3 (r : Nat) : Nat := (r / 16 + r) % 16
def pcB (r : Nat) : Nat := b3 (b2 (b1 r))
theorem b_facts : ∀ r, r < 256 → b1 r < 256 ∧ b2 (b1 r) < 256 ∧ b2 (b1 r) / 16 ≤ 4 ∧ b2 (b1 r) % 16 ≤ 4 ∧ pcB r ≤ 8 ∧ pcB r = cntN (fun j => r.testBit j) 8 := by decide +kernel
theorem b1_carry : ∀ r, r < 256 → ∀ q, q < 2 → (128 * q + r / 2) &&& 85 = r / 2 &&& 85 := by decide +kernel
theorem b2_carry : ∀ r, r < 256 → ∀ q, q < 4 → (64 * q + r / 4) &&& 51 = r / 4 &&& 51 := by decide +kernel

def p1 (n x : Nat) : Nat := (x / 2 &&& mkM 85 n) + (x &&& mkM 85 n)
def p2 (n x : Nat) : Nat := (x / 4 &&& mkM 51 n) + (x &&& mkM 51 n)
def p3 (n x : Nat) : Nat := (x / 16 + x) &&& mkM 15 n
theorem p1_step (n x : Nat) : p1 (n + 1) x = 256 * p1 n (x / 256) + b1 (x % 256) := by
  have h := b1_carry (x % 256) (by omega) (x / 256 % 2) (by omega)
  rw [show 128 * (x / 256 % 2) + x % 256 / 2 = x / 2 % 256 by omega] at h
  unfold p1 b1
  rw [mkM, and_byte _ _ _ (by omega), and_byte _ _ _ (by omega), h, show x / 2 / 256 = x / 256 / 2 by omega]
  omega
theorem p2_step (n x : Nat) : p2 (n + 1) x = 256 * p2 n (x / 256) + b2 (x % 256) := by
  have h := b2_carry (x % 256) (by omega) (x / 256 % 4) (by omega)
  rw [show 64 * (x / 256 % 4) + x % 256 / 4 = x / 4 % 256 by omega] at h
  unfold p2 b2
  rw [mkM, and_byte _ _ _ (by omega), and_byte _ _ _ (by omega), h, show x / 4 / 256 = x / 256 / 4 by omega]
  omega
/-- each byte has two small halves. -/
def Gd : Nat → Nat → Prop
  | 0, y => True
  | n + 1, y => y % 256 / 16 ≤ 4 ∧ y % 256 % 16 ≤ 4 ∧ Gd n (y / 256)
theorem p3_step (n y : Nat) (h1 : y % 256 / 16 ≤ 4) (h2 : y % 256 % 16 ≤ 4) (h3 : y / 256 % 16 ≤ 4) : p3 (n + 1) y = 256 * p3 n (y / 256) + b3 (y % 256) := by
  unfold p3 b3
  have e : y / 16 + y = 256 * (y / 256 / 16 + y / 256) + (16 * (y / 256 % 16) + y % 256 / 16 + y % 256) := by omega
  rw [mkM, and_byte _ _ _ (by omega), show (y / 16 + y) / 256 = y / 256 / 16 + y / 256 by omega]
  congr 1
  rw [show (15 : Nat) = 2 ^ 4 - 1 from rfl, Nat.and_two_pow_sub_one_eq_mod]
  omega
/-- the bytes' counts. -/
def cs : Nat → Nat → Nat
  | 0, x => 0
  | n + 1, x => 256 * cs n (x / 256) + pcB (x % 256)
theorem p_gd : ∀ n x, Gd n (p2 n (p1 n x))
  | 0, x => trivial
  | n + 1, x => by
    have hf := b_facts (x % 256) (by omega)
    have e : p2 (n + 1) (p1 (n + 1) x) = 256 * p2 n (p1 n (x / 256)) + b2 (b1 (x % 256)) := by
      rw [p2_step, p1_step, show (256 * p1 n (x / 256) + b1 (x % 256)) / 256 = p1 n (x / 256) by omega, show (256 * p1 n (x / 256) + b1 (x % 256)) % 256 = b1 (x % 256) by omega]
    rw [e]
    refine ⟨by omega, by omega, ?_⟩
    rw [show (256 * p2 n (p1 n (x / 256)) + b2 (b1 (x % 256))) / 256 = p2 n (p1 n (x / 256)) by omega]
    exact p_gd n (x / 256)
theorem p_all : ∀ n x, p3 n (p2 n (p1 n x)) = cs n x
  | 0, x => by simp [p3, mkM, cs]
  | n + 1, x => by
    have hf := b_facts (x % 256) (by omega)
    have e : p2 (n + 1) (p1 (n + 1) x) = 256 * p2 n (p1 n (x / 256)) + b2 (b1 (x % 256)) := by
      rw [p2_step, p1_step, show (256 * p1 n (x / 256) + b1 (x % 256)) / 256 = p1 n (x / 256) by omega, show (256 * p1 n (x / 256) + b1 (x % 256)) % 256 = b1 (x % 256) by omega]
    have hg := p_gd n (x / 256)
    have hq : p2 n (p1 n (x / 256)) % 16 ≤ 4 := by
      cases n with
      | zero => simp [p2, mkM]
      | succ n =>
        have h2 := hg.2.1
        omega
    rw [e, p3_step _ _ (by omega) (by omega) (by rw [show (256 * p2 n (p1 n (x / 256)) + b2 (b1 (x % 256))) / 256 = p2 n (p1 n (x / 256)) by omega]; exact hq),
      show (256 * p2 n (p1 n (x / 256)) + b2 (b1 (x % 256))) / 256 = p2 n (p1 n (x / 256)) by omega, show (256 * p2 n (p1 n (x / 256)) + b2 (b1 (x % 256))) % 256 = b2 (b1 (x % 256)) by omega, p_all n (x / 256)]
    rfl
def sumB : Nat → Nat → Nat
  | 0, x => 0
  | n + 1, x => sumB n (x / 256) + pcB (x % 256)
theorem sumB_cnt : ∀ n x, sumB n x = cntN (fun j => x.testBit j) (8 * n)
  | 0, x => rfl
  | n + 1, x => by
    have hf := b_facts (x % 256) (by omega)
    rw [sumB, sumB_cnt n (x / 256), hf.2.2.2.2.2, show 8 * (n + 1) = 8 + 8 * n by omega, cntN_add, Nat.add_comm]
    congr 1
    · apply cntN_congr
      intro j hj
      rw [show (256 : Nat) = 2 ^ 8 from rfl, Nat.testBit_mod_two_pow, decide_eq_true hj]
      rfl
    · apply cntN_congr
      intro j hj
      rw [show (256 : Nat) = 2 ^ 8 from rfl, Nat.testBit_div_two_pow, Nat.add_comm]
/-- the bytes' counts, added up. -/
theorem add_up (y c0 c1 c2 c3 c4 c5 c6 c7 : Nat) (h0 : c0 ≤ 8) (h1 : c1 ≤ 8) (h2 : c2 ≤ 8) (h3 : c3 ≤ 8) (h4 : c4 ≤ 8) (h5 : c5 ≤ 8) (h6 : c6 ≤ 8) (h7 : c7 ≤ 8)
    (hy : y = 256 * (256 * (256 * (256 * (256 * (256 * (256 * (256 * 0 + c7) + c6) + c5) + c4) + c3) + c2) + c1) + c0) :
    ∃ y4 y5 y6, y4 = y + y / 256 ∧ y5 = y4 + y4 / 65536 ∧ y6 = y5 + y5 / 4294967296 ∧ y6 < 9223372036854775808 ∧ y6 % 128 = c0 + c1 + c2 + c3 + c4 + c5 + c6 + c7 := by
  have e4 : y + y / 256 = 256 * (256 * (256 * (256 * (256 * (256 * (256 * c7 + (c6 + c7)) + (c5 + c6)) + (c4 + c5)) + (c3 + c4)) + (c2 + c3)) + (c1 + c2)) + (c0 + c1) := by omega
  refine ⟨_, _, _, rfl, rfl, rfl, ?_⟩
  rw [e4]
  clear hy e4
  have e5 : ∀ z, z = 256 * (256 * (256 * (256 * (256 * (256 * (256 * c7 + (c6 + c7)) + (c5 + c6)) + (c4 + c5)) + (c3 + c4)) + (c2 + c3)) + (c1 + c2)) + (c0 + c1) →
      z + z / 65536 = 4294967296 * (256 * (256 * (256 * c7 + (c6 + c7)) + (c5 + c6 + c7)) + (c4 + c5 + c6 + c7)) + (256 * (256 * (256 * (c3 + c4 + c5 + c6) + (c2 + c3 + c4 + c5)) + (c1 + c2 + c3 + c4)) + (c0 + c1 + c2 + c3)) := by
    intro z hz
    omega
  rw [e5 _ rfl]
  clear e5
  have ha : 256 * (256 * (c3 + c4 + c5 + c6) + (c2 + c3 + c4 + c5)) + (c1 + c2 + c3 + c4) ≤ 3000000 := by omega
  have hb : 256 * (256 * c7 + (c6 + c7)) + (c5 + c6 + c7) ≤ 3000000 := by omega
  generalize 256 * (256 * (c3 + c4 + c5 + c6) + (c2 + c3 + c4 + c5)) + (c1 + c2 + c3 + c4) = a at ha ⊢
  generalize 256 * (256 * c7 + (c6 + c7)) + (c5 + c6 + c7) = b at hb ⊢
  have e6 : (4294967296 * (256 * b + (c4 + c5 + c6 + c7)) + (256 * a + (c0 + c1 + c2 + c3))) / 4294967296 = 256 * b + (c4 + c5 + c6 + c7) := by omega
  rw [e6]
  constructor <;> omega
theorem cs8 (x : Nat) : ∃ y4 y5 y6, y4 = cs 8 x + cs 8 x / 256 ∧ y5 = y4 + y4 / 65536 ∧ y6 = y5 + y5 / 4294967296 ∧ y6 < 9223372036854775808 ∧ y6 % 128 = cntN (fun j => x.testBit j) 64 := by
  have hp : ∀ r, pcB (r % 256) ≤ 8 := fun r => (b_facts (r % 256) (by omega)).2.2.2.2.1
  obtain ⟨y4, y5, y6, h1, h2, h3, h4, h5⟩ := add_up (cs 8 x) _ _ _ _ _ _ _ _ (hp x) (hp (x / 256)) (hp (x / 256 / 256)) (hp (x / 256 / 256 / 256)) (hp (x / 256 / 256 / 256 / 256)) (hp (x / 256 / 256 / 256 / 256 / 256)) (hp (x / 256 / 256 / 256 / 256 / 256 / 256)) (hp (x / 256 / 256 / 256 / 256 / 256 / 256 / 256)) rfl
  refine ⟨y4, y5, y6, h1, h2, h3, h4, ?_⟩
  rw [h5, show (64 : Nat) = 8 * 8 from rfl, ← sumB_cnt]
  simp only [sumB]
  omega
theorem mk85 : mkM 85 8 = 6148914691236517205 := rfl
theorem mk51 : mkM 51 8 = 3689348814741910323 := rfl
theorem mk15 : mkM 15 8 = 1085102592571150095 := rfl
theorem p1_lt (x : Nat) : p1 8 x ≤ 12297829382473034410 := by
  unfold p1
  rw [mk85]
  have h1 : x / 2 &&& 6148914691236517205 ≤ 6148914691236517205 := Nat.and_le_right
  have h2 : x &&& 6148914691236517205 ≤ 6148914691236517205 := Nat.and_le_right
  omega
theorem p2_lt (x : Nat) : p2 8 x ≤ 7378697629483820646 := by
  unfold p2
  rw [mk51]
  have h1 : x / 4 &&& 3689348814741910323 ≤ 3689348814741910323 := Nat.and_le_right
  have h2 : x &&& 3689348814741910323 ≤ 3689348814741910323 := Nat.and_le_right
  omega

theorem ofInt_i64 (a : Nat) (ha : a < 9223372036854775808) : (BitVec.ofInt 64 (a : Int)).toNat = a := by
  rw [BitVec.ofInt_natCast, BitVec.toNat_ofNat]; exact Nat.mod_eq_of_lt (by omega)
theorem i64_and_nat (a b : Nat) (ha : a < 9223372036854775808) (hb : b < 9223372036854775808) : bits .and .i64 (a : Int) (b : Int) = ((a &&& b : Nat) : Int) := by
  have hx : a &&& b < 2 ^ 63 := Nat.and_lt_two_pow _ (by omega)
  show IntKind.i64.wrap ((BitVec.ofInt 64 (a : Int) &&& BitVec.ofInt 64 (b : Int)).toNat : Int) = _
  rw [BitVec.toNat_and, ofInt_i64 a ha, ofInt_i64 b hb, IntKind.wrap_i64]
  omega

set_option maxRecDepth 100000 in
set_option maxHeartbeats 400000 in
theorem ones_any (x : Nat) (w : World) (hx : x < 18446744073709551616) : Calls Tryd.prog 53 #[.int .u64 (x : Nat)] w (Ret (.int .i64 (cntN (fun j => x.testBit j) 64 : Nat)) w) := by
  have e1 : IntKind.u64.wrap (bits .and .u64 ((x : Int) / 2) 6148914691236517205 + bits .and .u64 (x : Int) 6148914691236517205) = ((p1 8 x : Nat) : Int) := by
    have h1 := u64_and_nat (x / 2) 6148914691236517205 (by omega) (by omega)
    have h2 := u64_and_nat x 6148914691236517205 hx (by omega)
    have hl := p1_lt x
    rw [show ((x : Int) / 2) = ((x / 2 : Nat) : Int) by omega, show (6148914691236517205 : Int) = ((6148914691236517205 : Nat) : Int) from rfl, h1, h2]
    unfold p1 at hl ⊢
    rw [mk85] at hl ⊢
    rw [IntKind.wrap_u64]
    omega
  have hl1 := p1_lt x
  have e2 : IntKind.u64.wrap (bits .and .u64 (((p1 8 x : Nat) : Int) / 4) 3689348814741910323 + bits .and .u64 ((p1 8 x : Nat) : Int) 3689348814741910323) = ((p2 8 (p1 8 x) : Nat) : Int) := by
    have h1 := u64_and_nat (p1 8 x / 4) 3689348814741910323 (by omega) (by omega)
    have h2 := u64_and_nat (p1 8 x) 3689348814741910323 (by omega) (by omega)
    have hl := p2_lt (p1 8 x)
    rw [show (((p1 8 x : Nat) : Int) / 4) = ((p1 8 x / 4 : Nat) : Int) by omega, show (3689348814741910323 : Int) = ((3689348814741910323 : Nat) : Int) from rfl, h1, h2]
    unfold p2 at hl ⊢
    rw [mk51] at hl ⊢
    rw [IntKind.wrap_u64]
    omega
  have hl2 := p2_lt (p1 8 x)
  have e3 : bits .and .u64 (IntKind.u64.wrap (((p2 8 (p1 8 x) : Nat) : Int) / 16 + ((p2 8 (p1 8 x) : Nat) : Int))) 1085102592571150095 = ((cs 8 x : Nat) : Int) := by
    rw [← p_all]
    generalize p2 8 (p1 8 x) = y at hl2 ⊢
    have h1 := u64_and_nat (y / 16 + y) 1085102592571150095 (by omega) (by omega)
    rw [show IntKind.u64.wrap ((y : Int) / 16 + (y : Int)) = ((y / 16 + y : Nat) : Int) by rw [IntKind.wrap_u64]; omega, show (1085102592571150095 : Int) = ((1085102592571150095 : Nat) : Int) from rfl, h1]
    unfold p3
    rw [mk15]
  have hl3 : cs 8 x ≤ 1085102592571150095 := by
    rw [← p_all]
    unfold p3
    rw [mk15]
    exact Nat.and_le_right
  obtain ⟨y4, y5, y6, h4, h5, h6, hl6, h7⟩ := cs8 x
  generalize p1 8 x = y1 at *
  generalize p2 8 y1 = y2 at *
  generalize cs 8 x = y3 at *
  have e4 : IntKind.u64.wrap ((y3 : Int) + (y3 : Int) / 256) = ((y4 : Nat) : Int) := by rw [IntKind.wrap_u64]; omega
  have e5 : IntKind.u64.wrap ((y4 : Int) + (y4 : Int) / 65536) = ((y5 : Nat) : Int) := by rw [IntKind.wrap_u64]; omega
  have e6 : IntKind.u64.wrap ((y5 : Int) + (y5 : Int) / 4294967296) = ((y6 : Nat) : Int) := by rw [IntKind.wrap_u64]; omega
  have e7 : bits .and .i64 (y6 : Int) 127 = ((y6 % 128 : Nat) : Int) := by
    have h := i64_and_nat y6 127 hl6 (by omega)
    rw [nat_mask7] at h
    exact h
  rw [← h7]
  generalize y6 % 128 = y7 at e7 ⊢
  clear h4 h5 h6 h7 hl1 hl2 hl3
  go_enter Tryd.func53, Tryd.ntmps53
  go_wp2
  go_ret
  exact ⟨rfl, rfl⟩
end Go.Proofs.YtapfbjaopbcgjaaDoor
