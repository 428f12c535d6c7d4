/- The comparison of points, walked: cmp.Compare, slices.Compare, cmp.Or, order's closure. -/
import Derived.Test.YtkenjhalamdjfaaBkM
import Derived.Test.YtkenjhalamdjfaaBkC
import Derived.Deep.RegionHeld3
import Derived.Sort.Grow
namespace Go.Proofs.Ytkenjhalamdjfaa
set_option linter.unusedVariables false
set_option linter.unusedSimpArgs false
open Go.RowKit

set_option maxRecDepth 100000 in
set_option maxHeartbeats 400000 in
theorem nanI64_any (x : Int) (w : World) : Calls Try.prog 49 #[.int .i64 x] w (Ret (.bool false) w) := by
  have e : (x != x) = false := by simp
  go_enter Try.func49, Try.ntmps49
  go_wp2
  go_ret
  exact ⟨rfl, rfl⟩
set_option maxRecDepth 100000 in
set_option maxHeartbeats 400000 in
theorem nanInt_any (x : Int) (w : World) : Calls Try.prog 50 #[.int .i64 x] w (Ret (.bool false) w) := by
  have e : (x != x) = false := by simp
  go_enter Try.func50, Try.ntmps50
  go_wp2
  go_ret
  exact ⟨rfl, rfl⟩
set_option maxRecDepth 100000 in
set_option maxHeartbeats 800000 in
theorem cmpI64_any (x y : Int) (w : World) : Calls Try.prog 31 #[.int .i64 x, .int .i64 y] w (Ret (.int .i64 (cmpI x y)) w) := by
  by_cases h1 : x < y
  · have d1 : decide (x < y) = true := decide_eq_true h1
    have HE : Hid (cmpI x y = -1) := hide (by unfold cmpI; rw [if_pos h1])
    go_enter Try.func31, Try.ntmps31
    go_wp2_with (go_at_call 49; refine (nanI64_any _ _).mono ?_; rintro en w' ⟨rfl, rfl⟩)
    go_ret
    exact ⟨by rw [HE.out]; rfl, rfl⟩
  · have d1 : decide (x < y) = false := decide_eq_false h1
    by_cases h2 : y < x
    · have d2 : decide (y < x) = true := decide_eq_true h2
      have HE : Hid (cmpI x y = 1) := hide (by unfold cmpI; rw [if_neg h1, if_pos h2])
      go_enter Try.func31, Try.ntmps31
      go_wp2_with (go_at_call 49; refine (nanI64_any _ _).mono ?_; rintro en w' ⟨rfl, rfl⟩)
      go_ret
      exact ⟨by rw [HE.out]; rfl, rfl⟩
    · have d2 : decide (y < x) = false := decide_eq_false h2
      have HE : Hid (cmpI x y = 0) := hide (by unfold cmpI; rw [if_neg h1, if_neg h2])
      go_enter Try.func31, Try.ntmps31
      go_wp2_with (go_at_call 49; refine (nanI64_any _ _).mono ?_; rintro en w' ⟨rfl, rfl⟩)
      go_ret
      exact ⟨by rw [HE.out]; rfl, rfl⟩
set_option maxRecDepth 100000 in
set_option maxHeartbeats 800000 in
theorem cmpInt_any (x y : Int) (w : World) : Calls Try.prog 33 #[.int .i64 x, .int .i64 y] w (Ret (.int .i64 (cmpI x y)) w) := by
  by_cases h1 : x < y
  · have d1 : decide (x < y) = true := decide_eq_true h1
    have HE : Hid (cmpI x y = -1) := hide (by unfold cmpI; rw [if_pos h1])
    go_enter Try.func33, Try.ntmps33
    go_wp2_with (go_at_call 50; refine (nanInt_any _ _).mono ?_; rintro en w' ⟨rfl, rfl⟩)
    go_ret
    exact ⟨by rw [HE.out]; rfl, rfl⟩
  · have d1 : decide (x < y) = false := decide_eq_false h1
    by_cases h2 : y < x
    · have d2 : decide (y < x) = true := decide_eq_true h2
      have HE : Hid (cmpI x y = 1) := hide (by unfold cmpI; rw [if_neg h1, if_pos h2])
      go_enter Try.func33, Try.ntmps33
      go_wp2_with (go_at_call 50; refine (nanInt_any _ _).mono ?_; rintro en w' ⟨rfl, rfl⟩)
      go_ret
      exact ⟨by rw [HE.out]; rfl, rfl⟩
    · have d2 : decide (y < x) = false := decide_eq_false h2
      have HE : Hid (cmpI x y = 0) := hide (by unfold cmpI; rw [if_neg h1, if_neg h2])
      go_enter Try.func33, Try.ntmps33
      go_wp2_with (go_at_call 50; refine (nanInt_any _ _).mono ?_; rintro en w' ⟨rfl, rfl⟩)
      go_ret
      exact ⟨by rw [HE.out]; rfl, rfl⟩
set_option maxRecDepth 100000 in
set_option maxHeartbeats 800000 in
theorem cmpL_any (A A' : Option Addr) (n c c' B B' : Nat) (r s : List Int) (w : World) (hr : r.length = n) (hs : s.length = n) (hc : n ≤ c) (hc2 : c ≤ maxLen) (hc' : n ≤ c') (hc2' : c' ≤ maxLen) (h1 : Rd w B A (iz .i64 r)) (h2 : Rd w B' A' (iz .i64 s)) :
    Calls Try.prog 32 #[.slice A n c, .slice A' n c'] w (Ret (.int .i64 (cmpL r s)) w) := by
  have HR := hide hr
  have HS := hide hs
  have H1 := hide h1
  have H2 := hide h2
  unfold maxLen at hc2 hc2'
  clear hr hs h1 h2
  go_enter Try.func32, Try.ntmps32
  go_wp2
  go_loopw [5, 6, 7, 8, 11] (fun _ _ _ _ i wr => ∃ k : Nat, k ≤ n ∧ i = .int .i64 (k : Nat) ∧ Hid (cmpL r s = cmpL (r.drop k) (s.drop k)) ∧ wr = w) (fun _ _ _ _ i _ => n - (intOf i).toNat)
  case atStart => exact ⟨0, by omega, by go_num, hide rfl, rfl⟩
  case round =>
    obtain ⟨k, hk, rfl, HE, rfl⟩ := hrel
    by_cases hlt : k < n
    · have k1 : k < r.length := by rw [HR.out]; exact hlt
      have k2 : k < s.length := by rw [HS.out]; exact hlt
      obtain ⟨ad, rfl, _, ha⟩ := H1.out.intAt k1
      obtain ⟨bd, rfl, _, hb⟩ := H2.out.intAt k2
      have hd := cmpL_drop k1 k2
      generalize r.getD k 0 = x at ha hd
      generalize s.getD k 0 = y at hb hd
      have HD := hide hd
      have HCm := hide (cmpI64_any x y wr)
      obtain ⟨z, hz⟩ : ∃ z, z = cmpI x y := ⟨_, rfl⟩
      rw [← hz] at HCm HD
      clear k1 k2 hd hz
      by_cases hz0 : z = 0
      · have e1 : (z != 0) = false := by simpa using hz0
        have HE' : Hid (cmpL r s = cmpL (r.drop (k + 1)) (s.drop (k + 1))) := hide (by rw [HE.out, HD.out, if_pos hz0])
        clear hz0
        go_wp2_with (go_at_call 31; refine HCm.out.mono ?_; rintro en w' ⟨rfl, rfl⟩)
        go_roundw
        case rel => exact ⟨k + 1, by omega, by go_num, HE', trivial⟩
        case measure => simp [intOf]; omega
      · have e1 : (z != 0) = true := by simpa using hz0
        have HE' : Hid (cmpL r s = z) := hide (by rw [HE.out, HD.out, if_neg hz0])
        clear hz0
        go_wp2_with (go_at_call 31; refine HCm.out.mono ?_; rintro en w' ⟨rfl, rfl⟩)
        go_ret
        exact ⟨by rw [HE'.out]; rfl, rfl⟩
    · obtain rfl : k = n := by omega
      have HE' : Hid (cmpL r s = 0) := hide (by rw [HE.out, ← HR.out]; exact cmpL_done (by rw [HR.out, HS.out]))
      clear hlt
      go_wp2
      go_ret
      exact ⟨by rw [HE'.out]; rfl, rfl⟩
/-- cmp.Or. -/
def orL : List Int → Int
  | [] => 0
  | x :: r => if x ≠ 0 then x else orL r
theorem orL_drop {l : List Int} {k : Nat} (h : k < l.length) : orL (l.drop k) = if l.getD k 0 ≠ 0 then l.getD k 0 else orL (l.drop (k + 1)) := by
  rw [List.drop_eq_getElem_cons h, orL, List.getD, List.getElem?_eq_getElem h]
  rfl
set_option maxRecDepth 100000 in
set_option maxHeartbeats 800000 in
theorem orL_any (A : Option Addr) (n c B : Nat) (l : List Int) (w : World) (hl : l.length = n) (hc : n ≤ c) (hc2 : c ≤ maxLen) (h : Rd w B A (iz .i64 l)) :
    Calls Try.prog 30 #[.slice A n c] w (Ret (.int .i64 (orL l)) w) := by
  have HL := hide hl
  have H := hide h
  unfold maxLen at hc2
  clear hl h
  go_enter Try.func30, Try.ntmps30
  go_wp2
  go_loopw [5, 8] (fun _ i wr => ∃ k : Nat, k ≤ n ∧ i = .int .i64 (k : Nat) ∧ Hid (orL l = orL (l.drop k)) ∧ wr = w) (fun _ i _ => n - (intOf i).toNat)
  case atStart => exact ⟨0, by omega, by go_num, hide rfl, rfl⟩
  case round =>
    obtain ⟨k, hk, rfl, HE, rfl⟩ := hrel
    by_cases hlt : k < n
    · have k1 : k < l.length := by rw [HL.out]; exact hlt
      obtain ⟨ad, rfl, _, ha⟩ := H.out.intAt k1
      have hd := orL_drop k1
      generalize l.getD k 0 = x at ha hd
      have HD := hide hd
      clear k1 hd
      by_cases hz0 : x = 0
      · have e1 : (x != 0) = false := by simpa using hz0
        have HE' : Hid (orL l = orL (l.drop (k + 1))) := hide (by rw [HE.out, HD.out, if_neg (fun h => h hz0)])
        clear hz0
        go_wp2
        go_roundw
        case rel => exact ⟨k + 1, by omega, by go_num, HE', trivial⟩
        case measure => simp [intOf]; omega
      · have e1 : (x != 0) = true := by simpa using hz0
        have HE' : Hid (orL l = x) := hide (by rw [HE.out, HD.out, if_pos hz0])
        clear hz0
        go_wp2
        go_ret
        exact ⟨by rw [HE'.out]; rfl, rfl⟩
    · obtain rfl : k = n := by omega
      have HE' : Hid (orL l = 0) := hide (by rw [HE.out, ← HL.out, List.drop_length]; rfl)
      clear hlt
      go_wp2
      go_ret
      exact ⟨by rw [HE'.out]; rfl, rfl⟩
end Go.Proofs.Ytkenjhalamdjfaa
