/- Is a row of bytes the beginning of another? -/
import Derived.Test.YthbgcmffpnmbeaaVfHe
namespace Go.Proofs.Ythbgcmffpnmbeaa
set_option linter.unusedVariables false
set_option linter.unusedSimpArgs false
open Go.RowKit Go.Maps

set_option maxRecDepth 100000 in
set_option maxHeartbeats 800000 in
theorem begins_any (A B : Option Addr) (n c m d b1 b2 : Nat) (xs ys : List UInt8) (w : World) (hx : xs.length = n) (hy : ys.length = m) (hn : n ≤ c) (hc : c ≤ maxLen) (hm : m ≤ d) (hd : d ≤ maxLen) (hr : Rd w b1 A (by8 xs)) (hs : Rd w b2 B (by8 ys)) :
    Calls Try.prog 17 #[.slice A n c, .slice B m d] w (RetQ (.bool (decide (n ≤ m) && decide (xs = ys.take n))) w) := by
  by_cases hle : n ≤ m
  · have d1 : decide ((n : Int) ≤ (m : Int)) = true := decide_eq_true (by omega)
    have HB := hide (kbytes_any A B n c n d b1 b2 xs (ys.take n) w hx (by rw [List.length_take]; omega) hn hc (by omega) hd hr (by rw [by8_take]; exact hs.tk n))
    have hnd : n ≤ d := by omega
    have d2 : decide (n ≤ m) = true := decide_eq_true hle
    unfold maxLen at hc hd
    rw [d2, Bool.true_and]
    clear hr hs hx hy d2
    generalize decide (xs = ys.take n) = b at HB
    cases B
    all_goals
      go_enter Try.func17, Try.ntmps17
      go_wp2_with (go_at_call 18; refine HB.out.mono ?_; rintro e w2 ⟨rfl, q, rfl⟩)
      go_ret
      exact ⟨by simp, q, rfl⟩
  · have d1 : decide ((n : Int) ≤ (m : Int)) = false := decide_eq_false (by omega)
    have d2 : decide (n ≤ m) = false := decide_eq_false hle
    rw [d2, Bool.false_and]
    clear hr hs hx hy d2
    go_enter Try.func17, Try.ntmps17
    go_wp2
    go_ret
    exact ⟨by simp, 0, rfl⟩
end Go.Proofs.Ythbgcmffpnmbeaa
