/- The walk of live.Full. -/
import Derived.Test.YtapfbjaopbcgjaaDoorFullP
import Derived.RegionTactic
import Derived.BigRegion
namespace Go.Proofs.YtapfbjaopbcgjaaDoor
set_option linter.unusedVariables false
set_option linter.unusedSimpArgs false
open Go.RowKit

set_option maxRecDepth 100000 in
set_option maxHeartbeats 1000000 in
theorem full_any (n : Int) (w : World) (h1 : -9223372036854775808 ≤ n) (h2 : n ≤ 9223372036854775807) : Calls Tryd.prog 18 #[.int .i64 n] w (GivesBT w (List.replicate (clampN n) true)) := by
  have HN := hide (new_any n w h1 h2)
  have hN := clampN_le n
  generalize clampN n = N at HN hN
  clear h1 h2
  go_enter Tryd.func18, Tryd.ntmps18
  go_wp2_with (fail)
  refine HN.out.mono ?_
  rintro en w1 ⟨g, gw, rfl, hbt, hfr⟩
  have B1 := hide hbt
  have F1 := hide hfr
  have b0 := hbt.cell0
  rw [List.length_replicate] at b0
  have hwc : wcount N = (N + 63) / 64 := rfl
  have HWC := hide hwc
  have hw256 : wcount N ≤ 256 := by omega
  generalize wcount N = m at b0 hw256 HWC
  clear hbt hfr HN hwc
  go_wp2_with (fail)
  clear b0
  go_loopw [4, 12] (fun u i wr => ∃ k : Nat, k ≤ m ∧ i = .int .i64 k ∧ Hid (BT wr w.heap.size g gw (atK (fun _ => true) N (64 * k))) ∧ Hid (Fr No w wr)) (fun _ i _ => m - (intOf i).toNat)
  case atStart => exact ⟨0, by omega, rfl, hide (by rw [Nat.mul_zero, atK_zero]; exact B1.out), F1⟩
  case round =>
    clear B1 F1
    obtain ⟨k, hk, rfl, BW, FW⟩ := hrel
    by_cases hlt : k < m
    · have b0 := BW.out.cell0
      have b1 := BW.out.cell1
      rw [atK_len] at b0 b1
      rw [show wcount N = m from HWC.out.symm] at b0
      have hq : k < wcount N := by have := HWC.out; unfold wcount; omega
      have hw := BW.out.word (i := k) (by rw [atK_len]; exact hq)
      have hfz := BW.out.frozen k
      have HST := hide (fun v (hv : v = 18446744073709551615 / 2 ^ (64 * (k + 1) - N)) => BW.out.put (l' := atK (fun _ => true) N (64 * (k + 1))) (q := k) (v := v) (by rw [atK_len]; exact hq) (by rw [atK_len, atK_len]) (fun i hi => wd_word hi) (by rw [hv]; exact full_word N k))
      have HFR : Hid (∀ v, Fr (Is gw) wr (wr.setCell ⟨gw, k, none⟩ v)) := hide (fun v => (Fr.refl (Is gw) wr).setCell (p := ⟨gw, k, none⟩) (fun _ => rfl) v)
      have hkc : (k : Int) < (m : Int) := by omega
      generalize wd (atK (fun _ => true) N (64 * k)) k = y at hw
      clear hq
      by_cases hc : (N : Int) < 64 * ((k : Int) + 1)
      · obtain ⟨d, hd⟩ : ∃ d : Nat, 64 * (k + 1) - N = d := ⟨_, rfl⟩
        rw [hd] at HST
        have hd1 : 64 * ((k : Int) + 1) - (N : Int) = (d : Int) := by omega
        have HVE : Hid ((18446744073709551615 : Int) / 2 ^ d = ((18446744073709551615 / 2 ^ d : Nat) : Int)) := hide (by simp)
        have HDM : Hid (min d 64 = d) := hide (Nat.min_eq_left (by have := HWC.out; omega))
        clear hd
        go_wp2_with (fail)
        go_region
        go_wp2_with (fail)
        go_roundw
        case rel =>
          rw [HDM.out, HVE.out]
          exact ⟨k + 1, by omega, by go_num, hide ((HST.out _ rfl).fr0 ((Fr.refl No _).drew)), hide ((FW.out.own1 (HFR.out _) BW.out.lt.2.2.1).drew)⟩
        case measure => simp [intOf]; omega
      · have HVE : Hid ((18446744073709551615 : Int) = ((18446744073709551615 / 2 ^ (64 * (k + 1) - N) : Nat) : Int)) := hide (by rw [show 64 * (k + 1) - N = 0 by omega]; rfl)
        go_wp2_with (fail)
        go_region
        go_wp2_with (fail)
        go_roundw
        case rel =>
          rw [HVE.out]
          exact ⟨k + 1, by omega, by go_num, hide ((HST.out _ rfl).fr0 ((Fr.refl No _).drew)), hide ((FW.out.own1 (HFR.out _) BW.out.lt.2.2.1).drew)⟩
        case measure => simp [intOf]; omega
    · obtain rfl : k = m := by omega
      have HB : Hid (BT wr w.heap.size g gw (List.replicate N true)) := hide (by
        have h := BW.out
        rw [atK_top (by have := HWC.out; omega), range_true] at h
        exact h)
      go_wp2_with (fail)
      go_ret
      exact ⟨_, _, rfl, HB.out, FW.out⟩
end Go.Proofs.YtapfbjaopbcgjaaDoor
