/- The document's Uint: its walk. -/
import Derived.Test.YtkenjhalamdjfaaRefA
import Derived.Test.YtkenjhalamdjfaaBase
namespace Go.Proofs.Ytkenjhalamdjfaa
set_option linter.unusedVariables false
set_option linter.unusedSimpArgs false
open Go.RowKit

set_option maxRecDepth 100000 in
set_option maxHeartbeats 800000 in
theorem refUint_any (u : Nat) (w : World) (hu : u < 18446744073709551616) :
    Calls Try.prog 14 #[.int .u64 u] w (GivesB w (enc u)) := by
  have HM := hide (fun i => @enc_more u i)
  have HA := hide (fun i => @enc_at u i hu)
  have hl := enc_len u
  obtain ⟨i0, hi, hz, hsz, hby⟩ := info_parts Try.info5
  obtain ⟨L, HL⟩ : ∃ L, Hid ((enc u).length = L) := ⟨_, hide rfl⟩
  rw [HL.out] at hl HM HA
  obtain ⟨hl1, hl2⟩ := hl
  generalize enc u = E at HL HM HA
  go_enter Try.func14, Try.ntmps14
  go_wp2
  go_loop [3] (fun i => ∃ k : Nat, 1 ≤ k ∧ k ≤ L ∧ i = .int .i64 k) (fun i => 10 - (intOf i).toNat)
  case atStart => exact ⟨1, by omega, hl1, rfl⟩
  case round =>
    obtain ⟨k, hk1, hkL, rfl⟩ := hrel
    have hm := HM.out k hk1 hkL
    have hp : (0 : Int) < 2 ^ (7 * k) := Int.pow_pos (by omega)
    by_cases hlt : k < L
    · have h10 := (hm.1 hlt).1
      have hgt := (hm.1 hlt).2
      clear hm
      have hg2 : (0 : Int) < (u : Int) / 2 ^ (7 * k) := by
        have : ((u / 2 ^ (7 * k) : Nat) : Int) = (u : Int) / 2 ^ (7 * k) := by simp
        omega
      clear hgt
      go_wp2
      go_round
      case rel => exact ⟨k + 1, by omega, by omega, by go_num⟩
      case measure => simp [intOf]; omega
    · obtain rfl : k = L := by omega
      have hstop : (((k : Int) < 10 ∧ decide ((0 : Int) < (u : Int) / 2 ^ (7 * k)) = false) ∨ ¬ (k : Int) < 10) := by
        by_cases h10 : k < 10
        · refine .inl ⟨by omega, ?_⟩
          have : ¬ 0 < u / 2 ^ (7 * k) := fun h => hlt (hm.2 ⟨h10, h⟩)
          have e : ((u / 2 ^ (7 * k) : Nat) : Int) = (u : Int) / 2 ^ (7 * k) := by simp
          simp only [decide_eq_false_iff_not]
          omega
        · exact .inr (by omega)
      clear hm hlt
      rcases hstop with ⟨h10, hz0⟩ | h10
      all_goals
        go_wp2
        go_loopw [4, 5] (fun v i wr => ∃ j : Nat, j ≤ k ∧ i = .int .i64 j ∧ Hid (Own wr w.heap.size 5 1 v j (by8 (E.take j))) ∧ Hid (Fr No w wr)) (fun _ i _ => k - (intOf i).toNat)
        case atStart => exact ⟨0, by omega, rfl, hide (Own.nil _ _ _ _), hide (Fr.refl _ _)⟩
        case round =>
          obtain ⟨j, hj, rfl, HOw, HFr⟩ := hrel
          have hgw := HFr.out.size
          by_cases hlt : j < k
          · have hat := HA.out j hlt
            have hsn := take_snoc8 (l := E) (k := j) (by rw [HL.out]; exact hlt)
            have HSN := hide hsn
            clear hsn
            generalize E.getD j 0 = b at hat HSN
            by_cases hmore : j + 1 < k
            · rw [if_pos hmore] at hat
              have hb : (u : Int) / 2 ^ (7 * j) % 128 + 128 = (b.toNat : Int) := by rw [hat]; simp
              clear hat
              have HS := hide (Src.one (P := Try.prog) wr (e := 5) Try.underlying28 (.int .u8 b.toNat) rfl)
              have HOw' := hide (HOw.out.fr0 ((Fr.refl No wr).alloc (.cells #[.int .u8 b.toNat] 5)))
              have b1 : (j + 1) * 1 ≤ 140737488355328 := by omega
              have b2 : j + 1 ≤ maxLen := by unfold maxLen; omega
              have b3 : w.heap.size ≤ (wr.alloc (.cells #[.int .u8 b.toNat] 5)).heap.size := by simp; omega
              go_wp2_with (at_builtin; refine wpList_append_gen _ rfl (.tmp 37) (.tmp 39) 28 28 rfl w.heap.size 5 i0 (.int .u8 0) 1 1 Try.underlying28 hi hz hsz hby rfl u4 j (by8 (E.take j)) rfl HOw'.out _ 1 [.int .u8 b.toNat] rfl HS.out b1 b2 b3 ?_; intro v' w' hown hfr hat; have HOn := hide hown; have HFn := hide hfr; clear hown hfr hat)
              go_roundw
              case rel => exact ⟨j + 1, by omega, by go_num, hide (by rw [HSN.out, by8_append]; exact HOn.out), hide ((HFr.out.alloc _).own HFn.out (fun g hg => .inl (HOw.out.lt g hg).1))⟩
              case measure => simp [intOf]; omega
            · rw [if_neg hmore] at hat
              have hb : (u : Int) / 2 ^ (7 * j) % 128 = (b.toNat : Int) := by rw [hat]; simp
              clear hat
              have HS := hide (Src.one (P := Try.prog) wr (e := 5) Try.underlying28 (.int .u8 b.toNat) rfl)
              have HOw' := hide (HOw.out.fr0 ((Fr.refl No wr).alloc (.cells #[.int .u8 b.toNat] 5)))
              have b1 : (j + 1) * 1 ≤ 140737488355328 := by omega
              have b2 : j + 1 ≤ maxLen := by unfold maxLen; omega
              have b3 : w.heap.size ≤ (wr.alloc (.cells #[.int .u8 b.toNat] 5)).heap.size := by simp; omega
              go_wp2_with (at_builtin; refine wpList_append_gen _ rfl (.tmp 37) (.tmp 39) 28 28 rfl w.heap.size 5 i0 (.int .u8 0) 1 1 Try.underlying28 hi hz hsz hby rfl u4 j (by8 (E.take j)) rfl HOw'.out _ 1 [.int .u8 b.toNat] rfl HS.out b1 b2 b3 ?_; intro v' w' hown hfr hat; have HOn := hide hown; have HFn := hide hfr; clear hown hfr hat)
              go_roundw
              case rel => exact ⟨j + 1, by omega, by go_num, hide (by rw [HSN.out, by8_append]; exact HOn.out), hide ((HFr.out.alloc _).own HFn.out (fun g hg => .inl (HOw.out.lt g hg).1))⟩
              case measure => simp [intOf]; omega
          · go_wp2
            go_ret
            have hjk : j = k := by omega
            refine ⟨_, rfl, ?_, HFr.out⟩
            have h := HOw.out
            rw [hjk, List.take_of_length_le (by rw [HL.out]; omega)] at h
            rw [HL.out]
            exact h

end Go.Proofs.Ytkenjhalamdjfaa
