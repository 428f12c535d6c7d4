/- put, PutUint. -/
import Derived.Test.YtkenjhalamdjfaaSlices8
namespace Go.Proofs.Ytkenjhalamdjfaa
set_option linter.unusedVariables false
set_option linter.unusedSimpArgs false
open Go.RowKit

set_option maxHeartbeats 400000 in
theorem formU_any (u : Int) (w : World) : Calls Try.prog 22 #[.int .u64 u] w (Ret (.int .u64 u) w) := by
  go_enter Try.func22, Try.ntmps22
  go_wp2
  go_ret
  exact ⟨rfl, rfl⟩

set_option maxRecDepth 100000 in
set_option maxHeartbeats 1000000 in
theorem putU_loop (A : Option Addr) (n c B : Nat) (bs : List UInt8) (u : Nat) (x : Int) (w : World) (hl : bs.length = n) (hn : n ≤ c) (hc : c ≤ maxLen) (hb : n ≤ 140737488350000) (hB : B ≤ w.heap.size) (hr : Rd w B A (by8 bs)) (hu : u < 18446744073709551616)
    (hform : ∀ W, Calls Try.prog 22 #[.int .u64 x] W (Ret (.int .u64 u) W)) :
    Calls Try.prog 21 #[.slice A n c, .int .u64 x, .func (.func 22) #[] #[]] w (GivesB w (bs ++ enc u)) := by
  have H := hide (clone_any A n c B bs w hl hn hc (by omega) hB hr)
  have HFo := hide hform
  have HL := hide hl
  clear hr hl hform
  obtain ⟨i0, hi, hz, hsz, hby⟩ := info_parts Try.info5
  go_enter Try.func21, Try.ntmps21
  go_wp2_with (first | (go_at_call 36; refine H.out.mono ?_; rintro en w1 ⟨v1, rfl, hown, hfr⟩; have HO := hide hown; have HF := hide hfr; clear hown hfr) | (go_at_call 22; refine (HFo.out _).mono ?_; rintro en w2 ⟨rfl, rfl⟩))
  clear H HFo
  go_loopw [7, 8] (fun v y wr => ∃ (f k : Nat) (done : List UInt8), y = .int .u64 (k : Nat) ∧ Hid (Own wr w.heap.size 5 1 v done.length (by8 done)) ∧ Hid (done ++ encF f k = bs ++ enc u) ∧ Hid (Fr No w wr) ∧ Hid (f ≤ 9 ∧ done.length ≤ n + 9 - f ∧ k * 2 ^ (7 * (9 - f)) < 18446744073709551616)) (fun _ y _ => (intOf y).toNat)
  case atStart => exact ⟨9, u, bs, rfl, HO, hide rfl, HF, hide ⟨Nat.le_refl _, by rw [HL.out]; omega, by simpa using hu⟩⟩
  case round =>
    obtain ⟨f, k, done, rfl, HOw, HE, HFr, HB⟩ := hrel
    clear HO HF HL
    obtain ⟨hf9, hdl, hk⟩ := HB.out
    have hgw := HFr.out.size
    by_cases hbig : 127 < k
    · obtain ⟨f', rfl⟩ : ∃ f', f = f' + 1 := by
        cases f with
        | zero => exfalso; have e : (2 : Nat) ^ (7 * (9 - 0)) = 9223372036854775808 := by decide
                  rw [e] at hk; omega
        | succ f' => exact ⟨f', rfl⟩
      have HK := hide hk; clear hk
      have ho := or_128 k
      have HD := hide (show encF (f' + 1) k = UInt8.ofNat (k % 128 + 128) :: encF f' (k / 128) by rw [encF, if_pos hbig])
      generalize UInt8.ofNat (k % 128 + 128) = b at ho HD
      have HS := hide (Src.one (P := Try.prog) wr (e := 5) Try.underlying28 (.int .u8 b.toNat) rfl)
      have HOw' := hide (HOw.out.fr0 ((Fr.refl No wr).alloc (.cells #[.int .u8 b.toNat] 5)))
      have b1 : (done.length + 1) * 1 ≤ 140737488355328 := by omega
      have b2 : done.length + 1 ≤ maxLen := by unfold maxLen; omega
      have b3 : w.heap.size ≤ (wr.alloc (.cells #[.int .u8 b.toNat] 5)).heap.size := by simp; omega
      have HR := hide (show Own wr w.heap.size 5 1 u7 done.length (by8 done) → ∀ k, u7.ownBlock = some k → w.heap.size ≤ k from fun h k hk => (h.lt k hk).1)
      go_wp2_with (at_builtin; refine wpList_append_gen _ rfl (.tmp 18) (.tmp 22) 28 28 rfl w.heap.size 5 i0 (.int .u8 0) 1 1 Try.underlying28 hi hz hsz hby rfl u7 done.length (by8 done) rfl HOw'.out _ 1 [.int .u8 b.toNat] rfl HS.out b1 b2 b3 ?_; intro v' w' hown hfr hat; have HOn := hide hown; have HFn := hide hfr; clear hown hfr hat)
      go_roundw
      case rel =>
        refine ⟨f', k / 128, done ++ [b], by go_num, hide (by simpa [by8] using HOn.out), hide ?_, hide ((HFr.out.alloc _).own HFn.out (fun g hg => .inl (HOw.out.lt g hg).1)), hide ⟨by omega, by simp; omega, ?_⟩⟩
        · rw [← HE.out, HD.out]; simp
        · have e : 7 * (9 - f') = 7 * ((9 - (f' + 1)) + 1) := by omega
          rw [e, pow7, ← Nat.mul_assoc]
          exact Nat.lt_of_le_of_lt (Nat.mul_le_mul_right _ (by omega)) HK.out
      case measure => simp [intOf]; omega
    · obtain ⟨b, rfl⟩ : ∃ b : UInt8, k = b.toNat := ⟨UInt8.ofNat k, (ofNat_toNat (by omega)).symm⟩
      have HD := hide (show encF f b.toNat = [b] by cases f with
        | zero => simp [encF]
        | succ f => rw [encF, if_neg hbig]; simp)
      clear hk
      have HS := hide (Src.one (P := Try.prog) wr (e := 5) Try.underlying28 (.int .u8 b.toNat) rfl)
      have HOw' := hide (HOw.out.fr0 ((Fr.refl No wr).alloc (.cells #[.int .u8 b.toNat] 5)))
      have b1 : (done.length + 1) * 1 ≤ 140737488355328 := by omega
      have b2 : done.length + 1 ≤ maxLen := by unfold maxLen; omega
      have b3 : w.heap.size ≤ (wr.alloc (.cells #[.int .u8 b.toNat] 5)).heap.size := by simp; omega
      go_wp2_with (first | (at_builtin; refine wpList_append_gen _ rfl (.tmp 24) (.tmp 27) 28 28 rfl w.heap.size 5 i0 (.int .u8 0) 1 1 Try.underlying28 hi hz hsz hby rfl u7 done.length (by8 done) rfl HOw'.out _ 1 [.int .u8 b.toNat] rfl HS.out b1 b2 b3 ?_; intro v' w' hown hfr hat; obtain ⟨A1, c1, rfl, hc1, hc2, _⟩ := hown.form; have HOn := hide hown; have HFn := hide hfr; clear hown hfr hat) | (go_at_call 37; refine (clip_any _ _ _ _ hc1 hc2).mono ?_; rintro en w2 ⟨rfl, rfl⟩))
      go_ret
      refine ⟨_, rfl, ?_, (HFr.out.alloc _).own HFn.out (fun g hg => .inl (HOw.out.lt g hg).1)⟩
      rw [← HE.out, HD.out, by8_append, List.length_append]
      exact HOn.out.clip

theorem putU_any (A : Option Addr) (n c B : Nat) (bs : List UInt8) (u : Nat) (w : World) (hl : bs.length = n) (hn : n ≤ c) (hc : c ≤ maxLen) (hb : n ≤ 140737488350000) (hB : B ≤ w.heap.size) (hr : Rd w B A (by8 bs)) (hu : u < 18446744073709551616) :
    Calls Try.prog 12 #[.slice A n c, .int .u64 u] w (GivesB w (bs ++ enc u)) := by
  have H := hide (putU_loop A n c B bs u u w hl hn hc hb hB hr hu (fun W => formU_any _ W))
  clear hr hl
  go_enter Try.func12, Try.ntmps12
  go_wp2_with (go_at_call 21; refine H.out.mono ?_; rintro en w1 ⟨v1, rfl, hown, hfr⟩; have HO := hide hown; have HF := hide hfr; clear hown hfr)
  go_ret
  exact ⟨_, rfl, HO.out, HF.out⟩

end Go.Proofs.Ytkenjhalamdjfaa
