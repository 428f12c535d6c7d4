/- The document's form of a row. -/
import Derived.Test.YtpnhnnhocekchaaOne03
namespace Go.Proofs.Ytpnhnnhocekchaa
set_option linter.unusedVariables false
set_option linter.unusedSimpArgs false
open Go.RowKit

theorem chunk_len (l : List Int) (j : Nat) : (chunkL l j).length = min 128 (l.length - 128 * j) := by simp [chunkL]
theorem chunk_in {l : List Int} (h : InI l) (j : Nat) : InI (chunkL l j) := (h.drop _).take _
theorem Rd.chunk {w : World} {B : Nat} {ad : Addr} {l : List Int} (h : Rd w B (some ad) (iz .i64 l)) (j : Nat) : Rd w B (some (ad.add (128 * j))) (iz .i64 (chunkL l j)) := by
  unfold chunkL
  rw [iz_take, iz_drop]
  exact (h.dr _).tk _
theorem oneB_le {l : List Int} (h : InI l) : (oneB l).length ≤ 8 * l.length + 12 := by
  have h1 := psz_le (w := wid (aboveL l)) (n := l.length) (wid_above h)
  have h2 := (enc_len (zz (minL l))).2
  rw [oneB_len]
  omega
theorem putUp_le {l : List Int} (h : InI l) : ∀ i, (putUp l i).length ≤ 1036 * i
  | 0 => by simp [putUp]
  | i + 1 => by
    have h1 := putUp_le h i
    have h2 := oneB_le (chunk_in h i)
    have h3 := chunk_len l i
    rw [putUp_succ, List.length_append]
    omega

set_option maxRecDepth 100000 in
set_option maxHeartbeats 1000000 in
theorem refPut_any (A : Option Addr) (n c B : Nat) (l : List Int) (w : World) (hl : l.length = n) (hi : InI l) (hn : n ≤ c) (hc : c ≤ maxLen) (hb : n ≤ 1048576) (hB : B ≤ w.heap.size) (hr : Rd w B A (iz .i64 l)) :
    Calls Try.prog 31 #[.slice A n c] w (GivesB w (putR l)) := by
  obtain ⟨j0, hj0, jz, jsz, jby⟩ := info_parts Try.info5
  have HC := hide hc
  unfold maxLen at hc
  have HR := hide hr
  have HL := hide hl
  have HI := hide hi
  clear hr hl hi
  obtain ⟨wo, hwo⟩ : ∃ wo : World, wo = w := ⟨_, rfl⟩
  go_enter Try.func31, Try.ntmps31
  go_wp2
  go_loopw [3, 4, 5, 6] (fun v i e x wr => ∃ (j i' m : Nat), Hid (i' = 128 * j) ∧ i' ≤ n + 127 ∧ i = .int .i64 i' ∧ Hid (m = (putUp l j).length) ∧ Hid (Own wr w.heap.size 5 1 v m (by8 (putUp l j))) ∧ Hid (Fr No w wr)) (fun _ i _ _ _ => n + 127 - (intOf i).toNat)
  case atStart => exact ⟨0, 0, 0, hide rfl, by omega, rfl, hide rfl, hide (Own.nil _ _ _ _), hide (Fr.refl _ _)⟩
  case round =>
    obtain ⟨j, i', m, HJ, hij, rfl, HM, HOw, HFr⟩ := hrel
    have hgw := HFr.out.size
    by_cases hlt : i' < n
    · have h1 : i' < l.length := by rw [HL.out]; exact hlt
      obtain ⟨ad, rfl, _, _⟩ := HR.out.intAt h1
      have hbd := putUp_le HI.out j
      rw [← HM.out] at hbd
      have hmb : m ≤ 1100000000 := by have := HJ.out; omega
      have HRc := hide ((HR.out.fr0 HFr.out).chunk j)
      rw [← HJ.out] at HRc
      have hk := chunk_len l j
      rw [← HJ.out, HL.out] at hk
      obtain ⟨k, hkk⟩ : ∃ k, k = (chunkL l j).length := ⟨_, rfl⟩
      rw [← hkk] at hk
      have HK := hide hkk
      have hol := oneB_le (chunk_in HI.out j)
      rw [← hkk] at hol
      obtain ⟨q, hq⟩ : ∃ q, q = (oneB (chunkL l j)).length := ⟨_, rfl⟩
      rw [← hq] at hol
      have HQ := hide hq
      have HS := hide (putUp_succ l j)
      have hcc : c - i' ≤ maxLen := by have := HC.out; omega
      have HOne := hide (refOne_any (some (ad.add i')) k (c - i') B (chunkL l j) wr HK.out.symm (by omega) (chunk_in HI.out j) (by omega) hcc (by omega) (by omega) HRc.out)
      have hci : (c = i') = False := by simp; omega
      clear h1 hkk hq hbd hcc
      by_cases hfull : n < i' + 128
      · have e1 : (n : Int) - (i' : Int) = (k : Int) := by omega
        have e2 : n - i' = k := by omega
        clear hk
        have b1 : (m + q) * 1 ≤ 140737488355328 := by omega
        have b2 : m + q ≤ maxLen := by unfold maxLen; omega
        go_wp2_with (first
          | (go_at_call 60; refine HOne.out.mono ?_; rintro en1 w1 ⟨v1, rfl, hown, hfr⟩; rw [← HQ.out] at hown; obtain ⟨A3, c3, rfl, _⟩ := hown.form; have HS3 := hide (Src.ofRd (P := Try.prog) (size := 1) w1 Try.underlying23 A3 q c3 (by8 (oneB (chunkL l j))) (by rw [by8_length, HQ.out]; omega) (by omega) hown.rd (by8_one _)); have HO1 := hide (HOw.out.fr0 hfr); have HF1 := hide (HFr.out.tr hfr); have hg1 := hfr.size; have b3 : w.heap.size ≤ w1.heap.size := (by omega); clear hown hfr)
          | (at_builtin; refine wpList_append_gen _ rfl (.tmp 26) (.tmp 27) 23 23 rfl w.heap.size 5 j0 (.int .u8 0) 1 1 Try.underlying23 hj0 jz jsz jby rfl u3 m _ rfl HO1.out _ q (by8 (oneB (chunkL l j))) rfl HS3.out b1 b2 b3 ?_; intro v4 w4 hown hfr hat; have HO4 := hide hown; have HF4 : Hid (Fr No w w4) := hide (HF1.out.own hfr (fun g hg => .inl (HO1.out.lt g hg).1)); clear hown hfr hat))
        go_roundw
        case rel => exact ⟨j + 1, i' + 128, m + q, hide (by rw [HJ.out]; omega), by omega, by go_num, hide (by rw [HS.out, List.length_append, ← HM.out, ← HQ.out]), hide (by rw [HS.out, by8_append]; exact HO4.out), HF4⟩
        case measure => simp [intOf]; omega
      · obtain rfl : k = 128 := by omega
        have hfl : i' + 128 ≤ n := by omega
        clear hk hfull
        have b1 : (m + q) * 1 ≤ 140737488355328 := by omega
        have b2 : m + q ≤ maxLen := by unfold maxLen; omega
        go_wp2_with (first
          | (go_at_call 60; refine HOne.out.mono ?_; rintro en1 w1 ⟨v1, rfl, hown, hfr⟩; rw [← HQ.out] at hown; obtain ⟨A3, c3, rfl, _⟩ := hown.form; have HS3 := hide (Src.ofRd (P := Try.prog) (size := 1) w1 Try.underlying23 A3 q c3 (by8 (oneB (chunkL l j))) (by rw [by8_length, HQ.out]; omega) (by omega) hown.rd (by8_one _)); have HO1 := hide (HOw.out.fr0 hfr); have HF1 := hide (HFr.out.tr hfr); have hg1 := hfr.size; have b3 : w.heap.size ≤ w1.heap.size := (by omega); clear hown hfr)
          | (at_builtin; refine wpList_append_gen _ rfl (.tmp 26) (.tmp 27) 23 23 rfl w.heap.size 5 j0 (.int .u8 0) 1 1 Try.underlying23 hj0 jz jsz jby rfl u3 m _ rfl HO1.out _ q (by8 (oneB (chunkL l j))) rfl HS3.out b1 b2 b3 ?_; intro v4 w4 hown hfr hat; have HO4 := hide hown; have HF4 : Hid (Fr No w w4) := hide (HF1.out.own hfr (fun g hg => .inl (HO1.out.lt g hg).1)); clear hown hfr hat))
        go_roundw
        case rel => exact ⟨j + 1, i' + 128, m + q, hide (by rw [HJ.out]; omega), by omega, by go_num, hide (by rw [HS.out, List.length_append, ← HM.out, ← HQ.out]), hide (by rw [HS.out, by8_append]; exact HO4.out), HF4⟩
        case measure => simp [intOf]; omega
    · have HN : Hid (putR l = putUp l j) := hide (by
        unfold putR
        rw [HL.out]
        have h1 := HJ.out
        by_cases e : chunks n = j
        · rw [e]
        · exfalso
          unfold chunks at e
          omega)
      go_wp2
      go_ret
      exact ⟨_, rfl, by rw [HN.out, ← HM.out]; exact HOw.out, HFr.out⟩
end Go.Proofs.Ytpnhnnhocekchaa
