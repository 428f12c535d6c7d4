/- The walk of PackKnown: it answers true; nothing that was there has changed. No condition. -/
import Derived.Test.YtpnhnnhocekchaaAwake03
namespace Go.Proofs.Ytpnhnnhocekchaa
set_option linter.unusedVariables false
set_option linter.unusedSimpArgs false
open Go.RowKit

set_option maxRecDepth 100000 in
set_option maxHeartbeats 400000 in
/-- a row of bytes that is refused. -/
theorem bad_any (A : Option Addr) (m c B : Nat) (ni : Int) (b : List UInt8) (w : World) (hl : b.length = m) (hm : m ≤ 1000) (hn : m ≤ c) (hc : c ≤ maxLen) (hB : B ≤ w.heap.size) (hr : Rd w B A (by8 b)) (hg : getZ b ni = ([], 0, 20)) :
    Calls Try.prog 37 #[.int .i64 ni, .slice A m c] w (RetB true w) := by
  have h := get_any A m c B ni b w hl (by omega) hn hc hB hr
  rw [hg] at h
  have HG := hide h
  clear h hl hn hc hB hr hg
  go_enter Try.func37, Try.ntmps37
  go_wp2_with (fail)
  refine HG.out.mono ?_
  rintro en w1 ⟨v, rfl, hown, hfr⟩
  obtain ⟨A1, c1, rfl, _⟩ := hown.form
  have HF := hide hfr
  clear hown hfr
  go_wp2
  go_ret
  exact ⟨by simp, HF.out⟩

theorem unb_zero (n : Nat) (hn : n ≤ 1048576) : ∃ U : List Nat, U.length = n ∧ unbitsZ [] 0 (n : Int) = (U, 0) := by
  refine ⟨unpacked 0 n [], unpacked_len _ _ _, ?_⟩
  unfold unbitsZ
  rw [if_neg (by omega), Int.toNat_natCast, if_neg]
  · rfl
  · rintro (h | h)
    · exact h (by simp [psz])
    · exact h (by simp [leftN])
theorem kn_u1 : unbitsZ [197, 0] 3 3 = ([5, 0, 3], 0) := by decide +kernel
theorem kn_u2 : unbitsZ [197, 0] 3 6 = ([], 20) := by decide +kernel
theorem kn_u3 : unbitsZ [197, 128] 3 3 = ([], 20) := by decide +kernel
theorem kn_u4 : unbitsZ [] 65 0 = ([], 1) := by decide +kernel
theorem kn_u5 : unbitsZ [] 0 1048577 = ([], 1) := by decide +kernel
theorem kn_g1 : getZ [14, 0] 3 = ([7, 7, 7], 2, 0) := by decide +kernel
theorem kn_g2 : getZ [14, 0] 0 = ([], 0, 0) := by decide +kernel
theorem kn_g3 : getZ [] (-1) = ([], 0, 1) := by decide +kernel
theorem kn_p1 : putR [7, 7, 7] = [14, 0] := by decide +kernel
theorem kn_b1 : getZ [14, 65] 3 = ([], 0, 20) := by decide +kernel
theorem kn_b2 : getZ [14] 3 = ([], 0, 20) := by decide +kernel
theorem kn_b3 : getZ [1, 3, 24] 2 = ([], 0, 20) := by decide +kernel
theorem kn_b4 : getZ [0, 1, 3] 2 = ([], 0, 20) := by decide +kernel
theorem kn_b5 : getZ [] 1 = ([], 0, 20) := by decide +kernel
theorem kn_w1 : wid [0] = 0 := by decide +kernel
theorem kn_w2 : wid [] = 0 := by decide +kernel
theorem kn_w3 : wid [18446744073709551615] = 64 := by decide +kernel
theorem kn_64 (u : Nat) (h : u < 18446744073709551616) : In64 [u] := by
  intro x hx
  simp at hx
  omega
theorem kn_in : InI [7, 7, 7] := by
  intro u hu
  simp at hu
  omega

set_option maxRecDepth 100000 in
set_option maxHeartbeats 2000000 in
theorem packknown_any (w : World) : Calls Try.prog 5 #[] w (RetB true w) := by
  have hmax : ∀ k : Nat, k ≤ 100 → k ≤ maxLen := fun k h => by unfold maxLen; omega
  have HAw := hide awake03_any
  have HU1 := hide (fun (W : World) => unb_any (some ⟨W.heap.size, 0, none⟩) 2 2 _ 3 3 [197, 0] (W.alloc (.cells #[.int .u8 197, .int .u8 0] 5)) rfl (Nat.le_refl _) (hmax _ (by omega)) (Nat.le_refl _) (Rd.litB rfl))
  rw [kn_u1] at HU1
  have HU2 := hide (fun (W : World) => unb_any (some ⟨W.heap.size, 0, none⟩) 2 2 _ 3 6 [197, 0] (W.alloc (.cells #[.int .u8 197, .int .u8 0] 5)) rfl (Nat.le_refl _) (hmax _ (by omega)) (Nat.le_refl _) (Rd.litB rfl))
  rw [kn_u2] at HU2
  have HU3 := hide (fun (W : World) => unb_any (some ⟨W.heap.size, 0, none⟩) 2 2 _ 3 3 [197, 128] (W.alloc (.cells #[.int .u8 197, .int .u8 128] 5)) rfl (Nat.le_refl _) (hmax _ (by omega)) (Nat.le_refl _) (Rd.litB rfl))
  rw [kn_u3] at HU3
  have HU4 := hide (fun (W : World) => unb_any none 0 0 0 65 0 [] W rfl (Nat.le_refl _) (Nat.zero_le _) (Nat.zero_le _) (Rd.nil _ _ _))
  rw [kn_u4] at HU4
  have HU5 := hide (fun (W : World) => unb_any none 0 0 0 0 1048577 [] W rfl (Nat.le_refl _) (Nat.zero_le _) (Nat.zero_le _) (Rd.nil _ _ _))
  rw [kn_u5] at HU5
  obtain ⟨N, hN⟩ : ∃ N : Nat, (N : Int) = 1048576 := ⟨1048576, rfl⟩
  obtain ⟨U, hU1, hU2⟩ := unb_zero N (by omega)
  have HU6 := hide (fun (W : World) => unb_any none 0 0 0 0 (N : Int) [] W rfl (Nat.le_refl _) (Nat.zero_le _) (Nat.zero_le _) (Rd.nil _ _ _))
  rw [hU2, hN] at HU6
  have HUl := hide hU1
  clear hU1 hU2
  have HG1 := hide (fun (W : World) => get_any (some ⟨W.heap.size, 0, none⟩) 2 2 _ 3 [14, 0] (W.alloc (.cells #[.int .u8 14, .int .u8 0] 5)) rfl (by omega) (Nat.le_refl _) (hmax _ (by omega)) (Nat.le_refl _) (Rd.litB rfl))
  rw [kn_g1] at HG1
  have HG2 := hide (fun (W : World) => get_any (some ⟨W.heap.size, 0, none⟩) 2 2 _ 0 [14, 0] (W.alloc (.cells #[.int .u8 14, .int .u8 0] 5)) rfl (by omega) (Nat.le_refl _) (hmax _ (by omega)) (Nat.le_refl _) (Rd.litB rfl))
  rw [kn_g2] at HG2
  have HG3 := hide (fun (W : World) => get_any none 0 0 0 (-1) [] W rfl (by omega) (Nat.le_refl _) (Nat.zero_le _) (Nat.zero_le _) (Rd.nil _ _ _))
  rw [kn_g3] at HG3
  have HW1 := hide (fun (W : World) => show Calls Try.prog 21 #[.slice (some ⟨W.heap.size, 0, none⟩) 1 1] (W.alloc (.cells #[.int .u64 0] 52)) (fun en w' => en = .returned (.int .i64 0) ∧ Fr No (W.alloc (.cells #[.int .u64 0] 52)) w') from by have h := width_any (some ⟨W.heap.size, 0, none⟩) 1 1 _ [0] (W.alloc (.cells #[.int .u64 0] 52)) rfl (kn_64 0 (by omega)) (Nat.le_refl _) (hmax _ (by omega)) (Rd.litN rfl); rw [kn_w1] at h; exact h.mono fun en w' ⟨h1, h2⟩ => ⟨h1, h2 ▸ Fr.refl _ _⟩)
  have HW2 := hide (fun (W : World) => show Calls Try.prog 21 #[.slice none 0 0] W (fun en w' => en = .returned (.int .i64 0) ∧ Fr No W w') from by have h := width_any none 0 0 0 [] W rfl (fun u hu => nomatch hu) (Nat.le_refl _) (Nat.zero_le _) (Rd.nil _ _ _); rw [kn_w2] at h; exact h.mono fun en w' ⟨h1, h2⟩ => ⟨h1, h2 ▸ Fr.refl _ _⟩)
  have HW3 := hide (fun (W : World) => show Calls Try.prog 21 #[.slice (some ⟨W.heap.size, 0, none⟩) 1 1] (W.alloc (.cells #[.int .u64 18446744073709551615] 52)) (fun en w' => en = .returned (.int .i64 64) ∧ Fr No (W.alloc (.cells #[.int .u64 18446744073709551615] 52)) w') from by have h := width_any (some ⟨W.heap.size, 0, none⟩) 1 1 _ [18446744073709551615] (W.alloc (.cells #[.int .u64 18446744073709551615] 52)) rfl (kn_64 _ (by omega)) (Nat.le_refl _) (hmax _ (by omega)) (Rd.litN rfl); rw [kn_w3] at h; exact h.mono fun en w' ⟨h1, h2⟩ => ⟨h1, h2 ▸ Fr.refl _ _⟩)
  have HP1 := hide (fun (W : World) => put_any (some ⟨W.heap.size, 0, none⟩) 3 3 _ [7, 7, 7] (W.alloc (.cells #[.int .i64 7, .int .i64 7, .int .i64 7] 2)) rfl kn_in (Nat.le_refl _) (hmax _ (by omega)) (by omega) (Nat.le_refl _) (Rd.litI rfl))
  rw [kn_p1] at HP1
  have HP2 := hide (fun (W : World) => put_any none 0 0 0 [] W rfl (fun u hu => nomatch hu) (Nat.le_refl _) (Nat.zero_le _) (Nat.zero_le _) (Nat.zero_le _) (Rd.nil _ _ _))
  rw [putR_nil] at HP2
  have HB1 := hide (fun (W : World) => bad_any (some ⟨W.heap.size, 0, none⟩) 2 2 _ 3 [14, 65] (W.alloc (.cells #[.int .u8 14, .int .u8 65] 5)) rfl (by omega) (Nat.le_refl _) (hmax _ (by omega)) (Nat.le_refl _) (Rd.litB rfl) kn_b1)
  have HB2 := hide (fun (W : World) => bad_any (some ⟨W.heap.size, 0, none⟩) 1 1 _ 3 [14] (W.alloc (.cells #[.int .u8 14] 5)) rfl (by omega) (Nat.le_refl _) (hmax _ (by omega)) (Nat.le_refl _) (Rd.litB rfl) kn_b2)
  have HB3 := hide (fun (W : World) => bad_any (some ⟨W.heap.size, 0, none⟩) 3 3 _ 2 [1, 3, 24] (W.alloc (.cells #[.int .u8 1, .int .u8 3, .int .u8 24] 5)) rfl (by omega) (Nat.le_refl _) (hmax _ (by omega)) (Nat.le_refl _) (Rd.litB rfl) kn_b3)
  have HB4 := hide (fun (W : World) => bad_any (some ⟨W.heap.size, 0, none⟩) 3 3 _ 2 [0, 1, 3] (W.alloc (.cells #[.int .u8 0, .int .u8 1, .int .u8 3] 5)) rfl (by omega) (Nat.le_refl _) (hmax _ (by omega)) (Nat.le_refl _) (Rd.litB rfl) kn_b4)
  have HB5 := hide (fun (W : World) => bad_any none 0 0 0 1 [] W rfl (by omega) (Nat.le_refl _) (Nat.zero_le _) (Nat.zero_le _) (Rd.nil _ _ _) kn_b5)
  have Hm := hide hmax
  clear hmax
  go_enter Try.func5, Try.ntmps5
  have F0 : Hid (Fr No w w) := hide (Fr.refl _ _)
  go_wp2_with (fail)
  refine (HU1.out _).mono ?_
  rintro en w1 ⟨v1, rfl, hown, hfr⟩
  have F1 : Hid (Fr No w w1) := hide ((F0.out.alloc _).tr hfr)
  obtain ⟨A1, c1, rfl, p1, q1, _⟩ := hown.form
  have O1 := hide hown
  have Q1 := hide q1
  have P1 := hide p1
  have G1 : Hid (Fr No w1 w1) := hide (Fr.refl _ _)
  clear hown hfr p1 q1
  go_wp2_with (fail)
  refine (HU2.out _).mono ?_
  rintro en w2 ⟨v2, rfl, hown, hfr⟩
  have F2 : Hid (Fr No w w2) := hide ((F1.out.alloc _).tr hfr)
  have G1 : Hid (Fr No w1 w2) := hide ((G1.out.alloc _).tr hfr)
  obtain ⟨A2, c2, rfl, p2, q2, _⟩ := hown.form
  clear hown hfr p2 q2
  go_wp2_with (fail)
  refine (HU3.out _).mono ?_
  rintro en w3 ⟨v3, rfl, hown, hfr⟩
  have F3 : Hid (Fr No w w3) := hide ((F2.out.alloc _).tr hfr)
  have G1 : Hid (Fr No w1 w3) := hide ((G1.out.alloc _).tr hfr)
  obtain ⟨A3, c3, rfl, p3, q3, _⟩ := hown.form
  clear hown hfr p3 q3
  go_wp2_with (fail)
  refine (HU4.out _).mono ?_
  rintro en w4 ⟨v4, rfl, hown, hfr⟩
  have F4 : Hid (Fr No w w4) := hide (F3.out.tr hfr)
  have G1 : Hid (Fr No w1 w4) := hide (G1.out.tr hfr)
  obtain ⟨A4, c4, rfl, p4, q4, _⟩ := hown.form
  clear hown hfr p4 q4
  go_wp2_with (fail)
  refine (HU5.out _).mono ?_
  rintro en w5 ⟨v5, rfl, hown, hfr⟩
  have F5 : Hid (Fr No w w5) := hide (F4.out.tr hfr)
  have G1 : Hid (Fr No w1 w5) := hide (G1.out.tr hfr)
  obtain ⟨A5, c5, rfl, p5, q5, _⟩ := hown.form
  clear hown hfr p5 q5
  go_wp2_with (fail)
  refine (HU6.out _).mono ?_
  rintro en w6 ⟨v6, rfl, hown, hfr⟩
  have F6 : Hid (Fr No w w6) := hide (F5.out.tr hfr)
  have G1 : Hid (Fr No w1 w6) := hide (G1.out.tr hfr)
  rw [HUl.out] at hown
  obtain ⟨A6, c6, rfl, p6, q6, _⟩ := hown.form
  have O6 := hide hown
  have Q6 := hide q6
  have P6 := hide p6
  clear hown hfr p6 q6
  go_wp2_with (fail)
  refine (HG1.out _).mono ?_
  rintro en w7 ⟨v7, rfl, hown, hfr⟩
  have F7 : Hid (Fr No w w7) := hide ((F6.out.alloc _).tr hfr)
  have G1 : Hid (Fr No w1 w7) := hide ((G1.out.alloc _).tr hfr)
  obtain ⟨A7, c7, rfl, p7, q7, _⟩ := hown.form
  have O7 := hide hown
  have Q7 := hide q7
  have P7 := hide p7
  have G7 : Hid (Fr No w7 w7) := hide (Fr.refl _ _)
  clear hown hfr p7 q7
  go_wp2_with (fail)
  refine (HG2.out _).mono ?_
  rintro en w8 ⟨v8, rfl, hown, hfr⟩
  have F8 : Hid (Fr No w w8) := hide ((F7.out.alloc _).tr hfr)
  have G1 : Hid (Fr No w1 w8) := hide ((G1.out.alloc _).tr hfr)
  have G7 : Hid (Fr No w7 w8) := hide ((G7.out.alloc _).tr hfr)
  obtain ⟨A8, c8, rfl, p8, q8, _⟩ := hown.form
  clear hown hfr p8 q8
  go_wp2_with (fail)
  refine (HG3.out _).mono ?_
  rintro en w9 ⟨v9, rfl, hown, hfr⟩
  have F9 : Hid (Fr No w w9) := hide (F8.out.tr hfr)
  have G1 : Hid (Fr No w1 w9) := hide (G1.out.tr hfr)
  have G7 : Hid (Fr No w7 w9) := hide (G7.out.tr hfr)
  obtain ⟨A9, c9, rfl, p9, q9, _⟩ := hown.form
  clear hown hfr p9 q9
  go_wp2_with (fail)
  refine (HAw.out _).mono ?_
  rintro en w10 ⟨rfl, hfr⟩
  have F10 : Hid (Fr No w w10) := hide (F9.out.tr hfr)
  have G1 : Hid (Fr No w1 w10) := hide (G1.out.tr hfr)
  have G7 : Hid (Fr No w7 w10) := hide (G7.out.tr hfr)
  clear hfr
  go_wp2_with (fail)
  refine (HW1.out _).mono ?_
  rintro en w11 ⟨rfl, hfr⟩
  have F11 : Hid (Fr No w w11) := hide ((F10.out.alloc _).tr hfr)
  have G1 : Hid (Fr No w1 w11) := hide ((G1.out.alloc _).tr hfr)
  have G7 : Hid (Fr No w7 w11) := hide ((G7.out.alloc _).tr hfr)
  clear hfr
  go_wp2_with (fail)
  refine (HW2.out _).mono ?_
  rintro en w12 ⟨rfl, hfr⟩
  have F12 : Hid (Fr No w w12) := hide (F11.out.tr hfr)
  have G1 : Hid (Fr No w1 w12) := hide (G1.out.tr hfr)
  have G7 : Hid (Fr No w7 w12) := hide (G7.out.tr hfr)
  clear hfr
  go_wp2_with (fail)
  refine (HW3.out _).mono ?_
  rintro en w13 ⟨rfl, hfr⟩
  have F13 : Hid (Fr No w w13) := hide ((F12.out.alloc _).tr hfr)
  have G1 : Hid (Fr No w1 w13) := hide ((G1.out.alloc _).tr hfr)
  have G7 : Hid (Fr No w7 w13) := hide ((G7.out.alloc _).tr hfr)
  clear hfr
  go_wp2_with (fail)
  have HC14 := hide (u64_b A1 (some ⟨w13.heap.size, 0, none⟩) 3 c1 3 3 [5, 0, 3] [5, 0, 3] (w13.alloc (.cells #[.int .u64 5, .int .u64 0, .int .u64 3] 52)) rfl rfl P1.out Q1.out (Nat.le_refl _) (Hm.out _ (by omega)) ((O1.out.fr0 (G1.out.alloc _)).rd) (Rd.litN rfl))
  refine HC14.out.mono ?_
  rintro en w14 ⟨rfl, hfr⟩
  have F14 : Hid (Fr No w w14) := hide ((F13.out.alloc _).tr hfr)
  have G1 : Hid (Fr No w1 w14) := hide ((G1.out.alloc _).tr hfr)
  have G7 : Hid (Fr No w7 w14) := hide ((G7.out.alloc _).tr hfr)
  clear hfr
  go_wp2_with (fail)
  refine (HP1.out _).mono ?_
  rintro en w15 ⟨v15, rfl, hown, hfr⟩
  have F15 : Hid (Fr No w w15) := hide ((F14.out.alloc _).tr hfr)
  have G1 : Hid (Fr No w1 w15) := hide ((G1.out.alloc _).tr hfr)
  have G7 : Hid (Fr No w7 w15) := hide ((G7.out.alloc _).tr hfr)
  obtain ⟨A15, c15, rfl, p15, q15, _⟩ := hown.form
  have O15 := hide hown
  have Q15 := hide q15
  have P15 := hide p15
  have G15 : Hid (Fr No w15 w15) := hide (Fr.refl _ _)
  clear hown hfr p15 q15
  go_wp2_with (fail)
  have HC16 := hide (bytes_b A15 (some ⟨w15.heap.size, 0, none⟩) 2 c15 2 2 [14, 0] [14, 0] (w15.alloc (.cells #[.int .u8 14, .int .u8 0] 5)) rfl rfl P15.out Q15.out (Nat.le_refl _) (Hm.out _ (by omega)) ((O15.out.fr0 (G15.out.alloc _)).rd) (Rd.litB rfl))
  refine HC16.out.mono ?_
  rintro en w16 ⟨rfl, hfr⟩
  have F16 : Hid (Fr No w w16) := hide ((F15.out.alloc _).tr hfr)
  have G1 : Hid (Fr No w1 w16) := hide ((G1.out.alloc _).tr hfr)
  have G7 : Hid (Fr No w7 w16) := hide ((G7.out.alloc _).tr hfr)
  have G15 : Hid (Fr No w15 w16) := hide ((G15.out.alloc _).tr hfr)
  clear hfr
  go_wp2_with (fail)
  refine (HP2.out _).mono ?_
  rintro en w17 ⟨v17, rfl, hown, hfr⟩
  have F17 : Hid (Fr No w w17) := hide (F16.out.tr hfr)
  have G1 : Hid (Fr No w1 w17) := hide (G1.out.tr hfr)
  have G7 : Hid (Fr No w7 w17) := hide (G7.out.tr hfr)
  have G15 : Hid (Fr No w15 w17) := hide (G15.out.tr hfr)
  obtain ⟨A17, c17, rfl, p17, q17, _⟩ := hown.form
  clear hown hfr p17 q17
  go_wp2_with (fail)
  have HC18 := hide (i64_b A7 (some ⟨w17.heap.size, 0, none⟩) 3 c7 3 3 [7, 7, 7] [7, 7, 7] (w17.alloc (.cells #[.int .i64 7, .int .i64 7, .int .i64 7] 2)) rfl rfl P7.out Q7.out (Nat.le_refl _) (Hm.out _ (by omega)) ((O7.out.fr0 (G7.out.alloc _)).rd) (Rd.litI rfl))
  refine HC18.out.mono ?_
  rintro en w18 ⟨rfl, hfr⟩
  have F18 : Hid (Fr No w w18) := hide ((F17.out.alloc _).tr hfr)
  have G1 : Hid (Fr No w1 w18) := hide ((G1.out.alloc _).tr hfr)
  have G7 : Hid (Fr No w7 w18) := hide ((G7.out.alloc _).tr hfr)
  have G15 : Hid (Fr No w15 w18) := hide ((G15.out.alloc _).tr hfr)
  clear hfr
  go_wp2_with (fail)
  refine (HB1.out _).mono ?_
  rintro en w19 ⟨rfl, hfr⟩
  have F19 : Hid (Fr No w w19) := hide ((F18.out.alloc _).tr hfr)
  have G1 : Hid (Fr No w1 w19) := hide ((G1.out.alloc _).tr hfr)
  have G7 : Hid (Fr No w7 w19) := hide ((G7.out.alloc _).tr hfr)
  have G15 : Hid (Fr No w15 w19) := hide ((G15.out.alloc _).tr hfr)
  clear hfr
  go_wp2_with (fail)
  refine (HB2.out _).mono ?_
  rintro en w20 ⟨rfl, hfr⟩
  have F20 : Hid (Fr No w w20) := hide ((F19.out.alloc _).tr hfr)
  have G1 : Hid (Fr No w1 w20) := hide ((G1.out.alloc _).tr hfr)
  have G7 : Hid (Fr No w7 w20) := hide ((G7.out.alloc _).tr hfr)
  have G15 : Hid (Fr No w15 w20) := hide ((G15.out.alloc _).tr hfr)
  clear hfr
  go_wp2_with (fail)
  refine (HB3.out _).mono ?_
  rintro en w21 ⟨rfl, hfr⟩
  have F21 : Hid (Fr No w w21) := hide ((F20.out.alloc _).tr hfr)
  have G1 : Hid (Fr No w1 w21) := hide ((G1.out.alloc _).tr hfr)
  have G7 : Hid (Fr No w7 w21) := hide ((G7.out.alloc _).tr hfr)
  have G15 : Hid (Fr No w15 w21) := hide ((G15.out.alloc _).tr hfr)
  clear hfr
  go_wp2_with (fail)
  refine (HB4.out _).mono ?_
  rintro en w22 ⟨rfl, hfr⟩
  have F22 : Hid (Fr No w w22) := hide ((F21.out.alloc _).tr hfr)
  have G1 : Hid (Fr No w1 w22) := hide ((G1.out.alloc _).tr hfr)
  have G7 : Hid (Fr No w7 w22) := hide ((G7.out.alloc _).tr hfr)
  have G15 : Hid (Fr No w15 w22) := hide ((G15.out.alloc _).tr hfr)
  clear hfr
  go_wp2_with (fail)
  refine (HB5.out _).mono ?_
  rintro en w23 ⟨rfl, hfr⟩
  have F23 : Hid (Fr No w w23) := hide (F22.out.tr hfr)
  have G1 : Hid (Fr No w1 w23) := hide (G1.out.tr hfr)
  have G7 : Hid (Fr No w7 w23) := hide (G7.out.tr hfr)
  have G15 : Hid (Fr No w15 w23) := hide (G15.out.tr hfr)
  clear hfr
  go_wp2
  go_ret
  exact ⟨by simp, F23.out⟩
end Go.Proofs.Ytpnhnnhocekchaa
