/- And, Or, Minus, Copy of sets. -/
import Derived.Test.YtapfbjaopbcgjaaDoorWithW
namespace Go.Proofs.YtapfbjaopbcgjaaDoor
set_option linter.unusedVariables false
set_option linter.unusedSimpArgs false
open Go.RowKit

theorem joins_and : Joins (fun p q => p && q) (fun x y => x &&& y) := fun x y hx hy => ⟨Nat.lt_of_le_of_lt Nat.and_le_left hx, fun t _ => Nat.testBit_and ..⟩
theorem joins_or : Joins (fun p q => p || q) (fun x y => x ||| y) := fun x y hx hy => ⟨Nat.or_lt_two_pow hx hy, fun t _ => Nat.testBit_or ..⟩
theorem joins_minus : Joins (fun p q => p && !q) (fun x y => x &&& (18446744073709551615 - y)) := fun x y hx hy => ⟨Nat.lt_of_le_of_lt Nat.and_le_left hx, fun t ht => by rw [Nat.testBit_and, testBit_not64 hy ht]⟩
theorem joins_copy : Joins (fun p _ => p) (fun x _ => x) := fun x y hx hy => ⟨hx, fun t _ => rfl⟩

set_option maxRecDepth 100000 in
theorem and1_any (W : World) (x y : Nat) (hx : x < 18446744073709551616) (hy : y < 18446744073709551616) : Calls Tryd.prog 46 #[.int .u64 x, .int .u64 y] W (Ret (.int .u64 (x &&& y : Nat)) W) := by
  have h := u64_and_nat x y hx hy
  go_enter Tryd.func46, Tryd.ntmps46
  go_wp2
  go_ret
  first | exact ⟨by rw [h], rfl⟩ | exact ⟨rfl, rfl⟩
set_option maxRecDepth 100000 in
theorem or1_any (W : World) (x y : Nat) (hx : x < 18446744073709551616) (hy : y < 18446744073709551616) : Calls Tryd.prog 48 #[.int .u64 x, .int .u64 y] W (Ret (.int .u64 (x ||| y : Nat)) W) := by
  have h := u64_or_nat x y hx hy
  go_enter Tryd.func48, Tryd.ntmps48
  go_wp2
  go_ret
  first | exact ⟨by rw [h], rfl⟩ | exact ⟨rfl, rfl⟩
set_option maxRecDepth 100000 in
theorem minus1_any (W : World) (x y : Nat) (hx : x < 18446744073709551616) (hy : y < 18446744073709551616) : Calls Tryd.prog 49 #[.int .u64 x, .int .u64 y] W (Ret (.int .u64 (x &&& (18446744073709551615 - y) : Nat)) W) := by
  have h := u64_andNot_nat x y hx hy
  go_enter Tryd.func49, Tryd.ntmps49
  go_wp2
  go_ret
  first | exact ⟨by rw [h], rfl⟩ | exact ⟨rfl, rfl⟩
set_option maxRecDepth 100000 in
theorem copy1_any (W : World) (x y : Nat) (hx : x < 18446744073709551616) (hy : y < 18446744073709551616) : Calls Tryd.prog 50 #[.int .u64 x, .int .u64 y] W (Ret (.int .u64 (x : Nat)) W) := by
  go_enter Tryd.func50, Tryd.ntmps50
  go_wp2
  go_ret
  exact ⟨rfl, rfl⟩
section
variable {B1 B2 : Nat} {v1 v2 : Value} {a b : List Bool} {w : World}
set_option maxRecDepth 100000 in
theorem and_any (h1 : BV w B1 v1 a) (h2 : BV w B2 v2 b) (ha : a.length ≤ 16384) (hb : b.length ≤ 16384) : Calls Tryd.prog 22 #[v1, v2] w (GivesBT w (joinL (fun p q => p && q) a b)) := by
  have H := hide (withAnd_any _ _ joins_and and1_any B1 B2 v1 v2 a b w h1 h2 ha hb)
  clear h1 h2
  go_enter Tryd.func22, Tryd.ntmps22
  go_wp2_with (fail)
  refine H.out.mono ?_
  rintro en w1 ⟨g, gw, rfl, hbt, hfr⟩
  have HB := hide hbt
  have HF := hide hfr
  clear hbt hfr
  go_wp2_with (fail)
  go_ret
  exact ⟨_, _, rfl, HB.out, HF.out⟩
set_option maxRecDepth 100000 in
theorem or_any (h1 : BV w B1 v1 a) (h2 : BV w B2 v2 b) (ha : a.length ≤ 16384) (hb : b.length ≤ 16384) : Calls Tryd.prog 24 #[v1, v2] w (GivesBT w (joinL (fun p q => p || q) a b)) := by
  have H := hide (withOr_any _ _ joins_or or1_any B1 B2 v1 v2 a b w h1 h2 ha hb)
  clear h1 h2
  go_enter Tryd.func24, Tryd.ntmps24
  go_wp2_with (fail)
  refine H.out.mono ?_
  rintro en w1 ⟨g, gw, rfl, hbt, hfr⟩
  have HB := hide hbt
  have HF := hide hfr
  clear hbt hfr
  go_wp2_with (fail)
  go_ret
  exact ⟨_, _, rfl, HB.out, HF.out⟩
set_option maxRecDepth 100000 in
theorem minus_any (h1 : BV w B1 v1 a) (h2 : BV w B2 v2 b) (ha : a.length ≤ 16384) (hb : b.length ≤ 16384) : Calls Tryd.prog 25 #[v1, v2] w (GivesBT w (joinL (fun p q => p && !q) a b)) := by
  have H := hide (withMinus_any _ _ joins_minus minus1_any B1 B2 v1 v2 a b w h1 h2 ha hb)
  clear h1 h2
  go_enter Tryd.func25, Tryd.ntmps25
  go_wp2_with (fail)
  refine H.out.mono ?_
  rintro en w1 ⟨g, gw, rfl, hbt, hfr⟩
  have HB := hide hbt
  have HF := hide hfr
  clear hbt hfr
  go_wp2_with (fail)
  go_ret
  exact ⟨_, _, rfl, HB.out, HF.out⟩
theorem joinL_fst (a b : List Bool) : joinL (fun p _ => p) a b = a := by
  unfold joinL
  apply List.ext_getElem
  · simp
  · intro i h1 h2
    simp [hasN, h2]
set_option maxRecDepth 100000 in
theorem copy_any (h1 : BV w B1 v1 a) (ha : a.length ≤ 16384) : Calls Tryd.prog 26 #[v1] w (GivesBT w a) := by
  have H := hide (withCopy_any _ _ joins_copy copy1_any B1 0 v1 (.pointer none) a [] w h1 (.inl ⟨rfl, rfl⟩) ha (by simp))
  rw [joinL_fst] at H
  clear h1
  go_enter Tryd.func26, Tryd.ntmps26
  go_wp2_with (fail)
  refine H.out.mono ?_
  rintro en w1 ⟨g, gw, rfl, hbt, hfr⟩
  have HB := hide hbt
  have HF := hide hfr
  clear hbt hfr
  go_wp2_with (fail)
  go_ret
  exact ⟨_, _, rfl, HB.out, HF.out⟩
end
end Go.Proofs.YtapfbjaopbcgjaaDoor
