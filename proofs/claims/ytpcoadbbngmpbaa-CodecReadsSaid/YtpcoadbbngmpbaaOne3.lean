/- one call of two readers that are none. Written by wip/tools/genone3.py. -/
import Derived.Test.YtpcoadbbngmpbaaOne2
namespace Go.Proofs.Ytpcoadbbngmpbaa
open Go.RowKit

theorem box_kept0 {w w1 : World} {x y : Value} {t : TypeId} (f : Fr No (w.alloc (.cells #[x, y] t)) w1) : w1.cell? ⟨w.heap.size, 1, none⟩ = some y :=
  f.cell (p := ⟨w.heap.size, 1, none⟩) (cell_of_row _ w.heap.size 1 #[x, y] t (0, 0) (heap_alloc_new w _)) (fun e => e)
section
variable (w : World) (n : Int)
set_option maxRecDepth 100000 in
set_option maxHeartbeats 800000 in
theorem nil0  : Calls Try.prog 26 #[.pointer none, .pointer none, .agg #[.int .i64 0, .int .i64 n]] w (RetB true w) := by
  go_enter Try.func26, Try.ntmps26
  go_wp2_with (first | (go_at_call 9; refine (uint_nil _).mono ?_; rintro en w1 ⟨rfl, rfl⟩) | (go_at_call 45; refine (refU_nil _).mono ?_; rintro en w2 ⟨rfl, rfl⟩))
  go_ret
  exact ⟨rfl, (Fr.refl _ _).alloc _⟩
set_option maxRecDepth 100000 in
set_option maxHeartbeats 800000 in
theorem nil1  : Calls Try.prog 26 #[.pointer none, .pointer none, .agg #[.int .i64 1, .int .i64 n]] w (RetB true w) := by
  go_enter Try.func26, Try.ntmps26
  go_wp2_with (first | (go_at_call 11; refine (int_nil _).mono ?_; rintro en w1 ⟨rfl, rfl⟩) | (go_at_call 46; refine (refI_nil _).mono ?_; rintro en w2 ⟨rfl, rfl⟩))
  go_ret
  exact ⟨rfl, (Fr.refl _ _).alloc _⟩
set_option maxRecDepth 100000 in
set_option maxHeartbeats 800000 in
theorem nil5  : Calls Try.prog 26 #[.pointer none, .pointer none, .agg #[.int .i64 5, .int .i64 n]] w (RetB true w) := by
  go_enter Try.func26, Try.ntmps26
  go_wp2_with (first | (go_at_call 25; refine (end_nil _).mono ?_; rintro en w1 ⟨rfl, rfl⟩) | (go_at_call 50; refine (refEnd_nil _).mono ?_; rintro en w2 ⟨rfl, nq, rfl⟩))
  go_ret
  exact ⟨rfl, ((Fr.refl _ _).alloc _).drewN _⟩
set_option maxRecDepth 100000 in
set_option maxHeartbeats 800000 in
theorem nil2  : Calls Try.prog 26 #[.pointer none, .pointer none, .agg #[.int .i64 2, .int .i64 n]] w (RetB true w) := by
  go_enter Try.func26, Try.ntmps26
  go_wp2_with (fail)
  go_region_with (first | (go_at_call 33; refine (size_nil _ _).mono ?_; rintro en w1 ⟨rfl, hfr⟩; have F1 : Hid (Fr No (w.alloc (.cells #[.int .i64 2, .int .i64 n] 55)) w1) := ⟨hfr.os, hfr.tape, hfr.output, hfr.size, hfr.block⟩; clear hfr; have hbx := box_kept0 F1.out) | (go_at_call 47; refine (refN_nil _ _).mono ?_; rintro en w2 ⟨rfl, rfl⟩))
  all_goals (try go_wp2)
  all_goals go_ret
  all_goals exact ⟨rfl, ((Fr.refl No w).alloc _).tr F1.out⟩
set_option maxRecDepth 100000 in
set_option maxHeartbeats 800000 in
theorem nil3  : Calls Try.prog 26 #[.pointer none, .pointer none, .agg #[.int .i64 3, .int .i64 n]] w (RetB true w) := by
  go_enter Try.func26, Try.ntmps26
  go_wp2_with (fail)
  go_region_with (first | (go_at_call 24; refine (text_nil _ _).mono ?_; rintro en w1 ⟨rfl, hfr⟩; have F1 : Hid (Fr No (w.alloc (.cells #[.int .i64 3, .int .i64 n] 55)) w1) := ⟨hfr.os, hfr.tape, hfr.output, hfr.size, hfr.block⟩; clear hfr; have hbx := box_kept0 F1.out) | (go_at_call 48; refine (refT_nil _ _).mono ?_; rintro en w2 ⟨rfl, rfl⟩))
  all_goals (try go_wp2)
  all_goals go_ret
  all_goals exact ⟨rfl, ((Fr.refl No w).alloc _).tr F1.out⟩
set_option maxRecDepth 100000 in
set_option maxHeartbeats 800000 in
theorem nil4  : Calls Try.prog 26 #[.pointer none, .pointer none, .agg #[.int .i64 4, .int .i64 n]] w (RetB true w) := by
  go_enter Try.func26, Try.ntmps26
  go_wp2_with (first
    | (go_at_call 32; refine (bytes_nil _ _).mono ?_; rintro en w1 ⟨rfl, hfr⟩; have F1 := hide hfr; clear hfr; have hbx := box_kept0 F1.out)
    | (go_at_call 49; refine (refB_nil _ _).mono ?_; rintro en w2 ⟨rfl, rfl⟩)
    | (go_at_call 14; refine (kbytes_any none none 0 0 0 0 0 0 [] [] w1 rfl rfl (Nat.le_refl _) (Nat.zero_le _) (Nat.le_refl _) (Nat.zero_le _) (Rd.nil _ _ _) (Rd.nil _ _ _)).mono ?_; rw [decide_eq_true rfl]; rintro en w3 ⟨rfl, nq, rfl⟩))
  go_loop [9] (fun i => i = .int .i64 0) (fun _ => 0)
  case atStart => rfl
  case round =>
    subst hrel
    go_wp2
    go_ret
    exact ⟨rfl, (((Fr.refl No w).alloc _).tr F1.out).drewN _⟩
set_option maxRecDepth 100000 in
set_option maxHeartbeats 800000 in
theorem nilElse (k : Int) (h0 : (k == 0) = false) (h1 : (k == 1) = false) (h2 : (k == 2) = false) (h3 : (k == 3) = false) (h4 : (k == 4) = false) (h5 : (k == 5) = false) : Calls Try.prog 26 #[.pointer none, .pointer none, .agg #[.int .i64 k, .int .i64 n]] w (RetB true w) := by
  go_enter Try.func26, Try.ntmps26
  go_wp2
  go_ret
  exact ⟨rfl, (Fr.refl No w).alloc _⟩
end
theorem oneN (w : World) (k n : Int) : Calls Try.prog 26 #[.pointer none, .pointer none, .agg #[.int .i64 k, .int .i64 n]] w (RetB true w) := by
  by_cases h0 : k = 0
  · subst h0; exact nil0 w n
  by_cases h1 : k = 1
  · subst h1; exact nil1 w n
  by_cases h2 : k = 2
  · subst h2; exact nil2 w n
  by_cases h3 : k = 3
  · subst h3; exact nil3 w n
  by_cases h4 : k = 4
  · subst h4; exact nil4 w n
  by_cases h5 : k = 5
  · subst h5; exact nil5 w n
  exact nilElse w n k (by simpa using h0) (by simpa using h1) (by simpa using h2) (by simpa using h3) (by simpa using h4) (by simpa using h5)
theorem oneA (w : World) (B g h : Nat) (bs : List UInt8) (a : Nat) (e : Int) (k n : Int) (p : Pair w B g h bs a e) (hm1 : -9223372036854775808 ≤ n) (hm2 : n ≤ 9223372036854775807) :
    Calls Try.prog 26 #[.pointer (some ⟨g, 0, none⟩), .pointer (some ⟨h, 0, none⟩), .agg #[.int .i64 k, .int .i64 n]] w (OneRet w B g h bs e) := by
  by_cases h0 : k = 0
  · subst h0; exact one0 w B g h bs a e n p
  by_cases h1 : k = 1
  · subst h1; exact one1 w B g h bs a e n p
  by_cases h2 : k = 2
  · subst h2; exact one2 w B g h bs a e n p hm1 hm2
  by_cases h3 : k = 3
  · subst h3; exact one3 w B g h bs a e n p hm1 hm2
  by_cases h4 : k = 4
  · subst h4; exact one4 w B g h bs a e n p
  by_cases h5 : k = 5
  · subst h5; exact one5 w B g h bs a e n p
  exact oneElse w B g h bs a e n p k (by simpa using h0) (by simpa using h1) (by simpa using h2) (by simpa using h3) (by simpa using h4) (by simpa using h5)
end Go.Proofs.Ytpcoadbbngmpbaa
