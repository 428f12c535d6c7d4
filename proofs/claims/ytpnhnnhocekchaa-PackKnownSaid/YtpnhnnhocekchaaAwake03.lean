/- Some of the chapter's answers hold (awake of chapter 3). -/
import Derived.Test.YtpnhnnhocekchaaGetW03
import Derived.Test.YtpnhnnhocekchaaPutW03
import Derived.Test.YtpnhnnhocekchaaYes03
namespace Go.Proofs.Ytpnhnnhocekchaa
set_option linter.unusedVariables false
set_option linter.unusedSimpArgs false
open Go.RowKit

theorem aw_get : getZ [1, 2, 12, 153] 2 = ([-1, 2], 3, 0) := by decide +kernel
theorem aw_wid : wid [5, 0, 3] = 3 := by decide +kernel
theorem aw_bits : bitsZ [5, 0, 3] 3 = [197, 0] := by decide +kernel
theorem aw_put : putR [-1, 2] = [1, 2, 12] := by decide +kernel
theorem aw_64 : In64 [5, 0, 3] := by
  intro u hu
  simp at hu
  omega
theorem aw_in : InI [-1, 2] := by
  intro u hu
  simp at hu
  omega

set_option maxRecDepth 100000 in
set_option maxHeartbeats 2000000 in
theorem awake03_any (w : World) : Calls Try.prog 14 #[] w (RetB true w) := by
  have hmax : ∀ k : Nat, k ≤ 100 → k ≤ maxLen := fun k h => by unfold maxLen; omega
  have HG := hide (get_any (some ⟨w.heap.size, 0, none⟩) 4 4 _ 2 [1, 2, 12, 153] (w.alloc (.cells #[.int .u8 1, .int .u8 2, .int .u8 12, .int .u8 153] 5)) rfl (by omega) (Nat.le_refl _) (hmax _ (by omega)) (Nat.le_refl _) (Rd.litB rfl))
  rw [aw_get] at HG
  have HWi := hide (fun (W : World) => width_any (some ⟨W.heap.size, 0, none⟩) 3 3 _ [5, 0, 3] (W.alloc (.cells #[.int .u64 5, .int .u64 0, .int .u64 3] 52)) rfl aw_64 (Nat.le_refl _) (hmax _ (by omega)) (Rd.litN rfl))
  rw [aw_wid] at HWi
  have HBi := hide (fun (W : World) => bits_any (some ⟨W.heap.size, 0, none⟩) 3 3 _ 3 [5, 0, 3] (W.alloc (.cells #[.int .u64 5, .int .u64 0, .int .u64 3] 52)) rfl aw_64 (Nat.le_refl _) (hmax _ (by omega)) (by omega) (Nat.le_refl _) (Rd.litN rfl))
  rw [aw_bits] at HBi
  have HPu := hide (fun (W : World) => put_any (some ⟨W.heap.size, 0, none⟩) 2 2 _ [-1, 2] (W.alloc (.cells #[.int .i64 (-1), .int .i64 2] 2)) rfl aw_in (Nat.le_refl _) (hmax _ (by omega)) (by omega) (Nat.le_refl _) (Rd.litI rfl))
  rw [aw_put] at HPu
  have Hm := hide hmax
  clear hmax
  go_enter Try.func14, Try.ntmps14
  go_wp2_with (fail)
  refine HG.out.mono ?_
  rintro en w1 ⟨v1, rfl, hown, hfr⟩
  have O1 := hide hown
  have F1 : Hid (Fr No w w1) := hide (((Fr.refl No w).alloc _).tr hfr)
  obtain ⟨A1, c1, rfl, p1, p2, _⟩ := hown.form
  have p1' : 2 ≤ c1 := p1
  have P2 := hide p2
  clear hown hfr HG p1 p2
  go_wp2_with (fail)
  refine (HWi.out _).mono ?_
  rintro en w2 ⟨rfl, rfl⟩
  go_wp2_with (fail)
  have HB1 := hide (HBi.out (w1.alloc (.cells #[.int .u64 5, .int .u64 0, .int .u64 3] 52)))
  rw [show (w1.alloc (.cells #[.int .u64 5, .int .u64 0, .int .u64 3] 52)).heap.size = w1.heap.size + 1 by simp] at HB1
  refine HB1.out.mono ?_
  rintro en w3 ⟨v3, rfl, hown, hfr⟩
  have F3 : Hid (Fr No w1 w3) := hide ((((Fr.refl No w1).alloc _).alloc _).tr hfr)
  obtain ⟨A3, c3, rfl, q1, q2, _, q3, _⟩ := hown.form
  have q1' : 2 ≤ c3 := q1
  have HB3 := hide (bytes_b A3 _ 2 c3 2 2 [197, 0] [197, 0] _ rfl rfl q1 q2 (Nat.le_refl _) (Hm.out _ (by omega)) ((q3.fr0 ((Fr.refl No w3).alloc (.cells #[.int .u8 197, .int .u8 0] 5))).more (by simp)) (Rd.litB rfl))
  clear hown hfr q1 q2 q3
  go_wp2_with (fail)
  refine HB3.out.mono ?_
  rintro en w4 ⟨rfl, hfr⟩
  have F4 : Hid (Fr No w1 w4) := hide ((F3.out.alloc _).tr hfr)
  clear hfr HB3
  go_wp2_with (fail)
  refine (HPu.out _).mono ?_
  rintro en w5 ⟨v5, rfl, hown, hfr⟩
  have F5 : Hid (Fr No w1 w5) := hide ((F4.out.alloc _).tr hfr)
  obtain ⟨A5, c5, rfl, r1, r2, _, r3, _⟩ := hown.form
  have r1' : 3 ≤ c5 := r1
  have HB5 := hide (bytes_b A5 _ 3 c5 3 3 [1, 2, 12] [1, 2, 12] _ rfl rfl r1 r2 (Nat.le_refl _) (Hm.out _ (by omega)) ((r3.fr0 ((Fr.refl No w5).alloc (.cells #[.int .u8 1, .int .u8 2, .int .u8 12] 5))).more (by simp)) (Rd.litB rfl))
  clear hown hfr r1 r2 r3
  go_wp2_with (fail)
  refine HB5.out.mono ?_
  rintro en w6 ⟨rfl, hfr⟩
  have F6 : Hid (Fr No w1 w6) := hide ((F5.out.alloc _).tr hfr)
  clear hfr HB5
  have HI6 := hide (i64_b A1 _ 2 c1 2 2 [-1, 2] [-1, 2] _ rfl rfl p1' P2.out (Nat.le_refl _) (Hm.out _ (by omega)) (((O1.out.fr0 F6.out).fr0 ((Fr.refl No w6).alloc (.cells #[.int .i64 (-1), .int .i64 2] 2))).rd) (Rd.litI rfl))
  go_wp2_with (fail)
  refine HI6.out.mono ?_
  rintro en w7 ⟨rfl, hfr⟩
  have F7 : Hid (Fr No w w7) := hide (F1.out.tr ((F6.out.alloc _).tr hfr))
  clear hfr HI6
  go_wp2
  go_ret
  exact ⟨rfl, F7.out⟩
end Go.Proofs.Ytpnhnnhocekchaa
