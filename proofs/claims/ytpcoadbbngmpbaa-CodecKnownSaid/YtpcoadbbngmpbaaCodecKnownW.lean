/- The walk of CodecKnown: it answers true; nothing that was there has changed. Written by wip/tools/genknown.py. -/
import Derived.Test.YtpcoadbbngmpbaaCodecK
namespace Go.Proofs.Ytpcoadbbngmpbaa
open Go.RowKit

section
variable (g : Nat) (w : World)
theorem knT (h : RD w g [2, 97, 98] 0 0) : Calls Try.prog 24 #[.pointer (some ⟨g, 0, none⟩), .int .i64 1] w (RDRet (.string { data := #[] }) w g [2, 97, 98] 0 20) := by
  have h1 := text_any g _ 0 0 1 w h (by decide) (by decide)
  have e : textS [2, 97, 98] 0 0 1 = ([], 0, 20) := by decide +kernel
  rw [e] at h1
  exact h1
theorem knB (h : RD w g [97, 98] 0 0) : Calls Try.prog 32 #[.pointer (some ⟨g, 0, none⟩), .int .i64 3] w (GivesRB [] w g [97, 98] 0 20) := by
  have h1 := bytes_any g _ 0 0 3 w h
  have e : bytesS [97, 98] 0 0 3 = ([], 0, 20) := by decide +kernel
  rw [e] at h1
  exact h1
theorem knS4 (h : RD w g [5] 0 0) : Calls Try.prog 33 #[.pointer (some ⟨g, 0, none⟩), .int .i64 4] w (RDRet (.int .i64 0) w g [5] 0 20) := by
  have h1 := size_any g _ 0 0 4 w h (by decide) (by decide)
  have e : sizeS [5] 0 0 4 = (0, 0, 20) := by decide +kernel
  rw [e] at h1
  exact h1
theorem knS5 (h : RD w g [5] 0 0) : Calls Try.prog 33 #[.pointer (some ⟨g, 0, none⟩), .int .i64 5] w (RDRet (.int .i64 5) w g [5] 1 0) := by
  have h1 := size_any g _ 0 0 5 w h (by decide) (by decide)
  have e : sizeS [5] 0 0 5 = (5, 1, 0) := by decide +kernel
  rw [e] at h1
  exact h1
theorem knE (h : RD w g [5] 1 0) : Calls Try.prog 25 #[.pointer (some ⟨g, 0, none⟩)] w (RDRet (.int .i64 0) w g [5] 1 0) := by
  have h1 := end_any g _ 1 0 w h
  have e : endE [5] 1 0 = 0 := by decide +kernel
  rw [e] at h1
  exact h1
end

set_option maxRecDepth 100000 in
set_option maxHeartbeats 4000000 in
theorem codecKnown_any (w : World) : Calls Try.prog 7 #[] w (RetB true w) := by
  have F0 := hide (Fr.refl No w)
  go_enter Try.func7, Try.ntmps7
  go_wp2_with (first
    | (go_at_call 24; have mk := F36; clear mk; refine (text_nil _ _).mono ?_; rintro en w37 ⟨rfl, hfr⟩; have F37 := hide (F36.out.tr hfr); clear F36 hfr)
    | (go_at_call 9; have mk := F35; clear mk; refine (uint_nil _).mono ?_; rintro en wq ⟨rfl, rfl⟩; have F36 := F35; clear F35)
    | (go_at_call 12; have mk := F34; clear mk; refine (err_nil _).mono ?_; rintro en wq ⟨rfl, rfl⟩; have F35 := F34; clear F34)
    | (go_at_call 25; have mk := F33; clear mk; refine (knE _ _ (S4.out.fr0 D33.out)).mono ?_; rintro en w34 ⟨rfl, hrd, hfr⟩; have F34 := hide (F33.out.own1 hfr HG4F.out); clear F33 hrd hfr)
    | (go_at_call 12; have mk := F32; clear mk; refine (err_any g3 [5] 0 20 _ (S3.out.fr0 C32.out)).mono ?_; rintro en wq ⟨rfl, rfl⟩; have F33 := F32; clear F32; have A33 := A32; clear A32; have B33 := B32; clear B32; have C33 := C32; clear C32; have D33 := D32; clear D32)
    | (go_at_call 12; have mk := F31; clear mk; refine (err_any g2 [97, 98] 0 20 _ (S2.out.fr0 B31.out)).mono ?_; rintro en wq ⟨rfl, rfl⟩; have F32 := F31; clear F31; have A32 := A31; clear A31; have B32 := B31; clear B31; have C32 := C31; clear C31; have D32 := D31; clear D31)
    | (go_at_call 12; have mk := F30; clear mk; refine (err_any g1 [2, 97, 98] 0 20 _ (S1.out.fr0 A30.out)).mono ?_; rintro en wq ⟨rfl, rfl⟩; have F31 := F30; clear F30; have A31 := A30; clear A30; have B31 := B30; clear B30; have C31 := C30; clear C30; have D31 := D30; clear D30)
    | (go_at_call 34; have mk := F29; clear mk; refine (bad_any T4 10 d4 _ [255, 255, 255, 255, 255, 255, 255, 255, 255, 2] _ rfl hq4 hp4 (by omega) (Nat.le_refl _) Q4.out (by decide +kernel)).mono ?_; rintro en w30 ⟨rfl, hfr⟩; have F30 := hide (F29.out.tr hfr); clear F29; have A30 := hide (A29.out.tr hfr); clear A29; have B30 := hide (B29.out.tr hfr); clear B29; have C30 := hide (C29.out.tr hfr); clear C29; have D30 := hide (D29.out.tr hfr); clear D29; clear hfr)
    | (go_at_call 30; have mk := F28; clear mk; refine (times_new w28 #[.int .u8 2] [2] 1 rfl rfl (by omega) 9 10 9 255 255 rfl rfl (by omega) rfl).mono ?_; rintro en w29 ⟨T4, d4, rfl, hq4, hp4, hr, hfr⟩; have Q4 := hide hr; clear hr; have F29 := hide (F28.out.tr hfr); clear F28; have A29 := hide (A28.out.tr hfr); clear A28; have B29 := hide (B28.out.tr hfr); clear B28; have C29 := hide (C28.out.tr hfr); clear C28; have D29 := hide (D28.out.tr hfr); clear D28; clear hfr)
    | (go_at_call 34; have mk := F27; clear mk; refine (bad_any none 0 0 0 [] _ rfl (Nat.le_refl _) (Nat.zero_le _) (by omega) (Nat.zero_le _) (Rd.nil _ _ _) rfl).mono ?_; rintro en w28 ⟨rfl, hfr⟩; have F28 := hide (F27.out.tr hfr); clear F27; have A28 := hide (A27.out.tr hfr); clear A27; have B28 := hide (B27.out.tr hfr); clear B27; have C28 := hide (C27.out.tr hfr); clear C27; have D28 := hide (D27.out.tr hfr); clear D27; clear hfr)
    | (go_at_call 34; have mk := F26; clear mk; refine (bad_any T3 10 d3 _ [255, 255, 255, 255, 255, 255, 255, 255, 255, 255] _ rfl hq3 hp3 (by omega) (Nat.le_refl _) Q3.out (by decide +kernel)).mono ?_; rintro en w27 ⟨rfl, hfr⟩; have F27 := hide (F26.out.tr hfr); clear F26; have A27 := hide (A26.out.tr hfr); clear A26; have B27 := hide (B26.out.tr hfr); clear B26; have C27 := hide (C26.out.tr hfr); clear C26; have D27 := hide (D26.out.tr hfr); clear D26; clear hfr)
    | (go_at_call 30; have mk := F25; clear mk; refine (times_nil _ 10 10 255 255 rfl rfl (by omega)).mono ?_; rintro en w26 ⟨T3, d3, rfl, hq3, hp3, hr, hfr⟩; have Q3 := hide hr; clear hr; have F26 := hide (F25.out.tr hfr); clear F25; have A26 := hide (A25.out.tr hfr); clear A25; have B26 := hide (B25.out.tr hfr); clear B25; have C26 := hide (C25.out.tr hfr); clear C25; have D26 := hide (D25.out.tr hfr); clear D25; clear hfr)
    | (go_at_call 34; have mk := F24; clear mk; refine (bad_new w24 #[.int .u8 128, .int .u8 0] [128, 0] 2 rfl rfl (by omega) (by decide +kernel)).mono ?_; rintro en w25 ⟨rfl, hfr⟩; have F25 := hide (F24.out.tr hfr); clear F24; have A25 := hide (A24.out.tr hfr); clear A24; have B25 := hide (B24.out.tr hfr); clear B24; have C25 := hide (C24.out.tr hfr); clear C24; have D25 := hide (D24.out.tr hfr); clear D24; clear hfr)
    | (go_at_call 34; have mk := F23; clear mk; refine (bad_new w23 #[.int .u8 128] [128] 1 rfl rfl (by omega) (by decide +kernel)).mono ?_; rintro en w24 ⟨rfl, hfr⟩; have F24 := hide (F23.out.tr hfr); clear F23; have A24 := hide (A23.out.tr hfr); clear A23; have B24 := hide (B23.out.tr hfr); clear B23; have C24 := hide (C23.out.tr hfr); clear C23; have D24 := hide (D23.out.tr hfr); clear D23; clear hfr)
    | (go_at_call 33; have mk := F22; clear mk; refine (knS5 _ _ R4.out).mono ?_; rintro en w23 ⟨rfl, hrd, hfr⟩; have S4 := hide hrd; clear hrd; have F23 := hide (F22.out.own1 hfr HG4F.out); clear F22; have A23 := hide (A22.out.own1 hfr HG4A.out); clear A22; have B23 := hide (B22.out.own1 hfr HG4B.out); clear B22; have C23 := hide (C22.out.own1 hfr HG4C.out); clear C22; clear hfr; have D23 := hide (Fr.refl No w23))
    | (go_at_call 8; have mk := F21; clear mk; refine (reader_new w21 #[.int .u8 5] [5] 1 rfl rfl (by omega)).mono ?_; rintro en w22 ⟨g4, rfl, hg, hrd, hfr⟩; have R4 := hide hrd; have HG4F := hide (Nat.le_trans F21.out.size hg); have HG4A := hide (Nat.le_trans A21.out.size hg); have HG4B := hide (Nat.le_trans B21.out.size hg); have HG4C := hide (Nat.le_trans C21.out.size hg); clear hrd hg; have F22 := hide (F21.out.tr hfr); clear F21; have A22 := hide (A21.out.tr hfr); clear A21; have B22 := hide (B21.out.tr hfr); clear B21; have C22 := hide (C21.out.tr hfr); clear C21; clear hfr)
    | (go_at_call 33; have mk := F20; clear mk; refine (knS4 _ _ R3.out).mono ?_; rintro en w21 ⟨rfl, hrd, hfr⟩; have S3 := hide hrd; clear hrd; have F21 := hide (F20.out.own1 hfr HG3F.out); clear F20; have A21 := hide (A20.out.own1 hfr HG3A.out); clear A20; have B21 := hide (B20.out.own1 hfr HG3B.out); clear B20; clear hfr; have C21 := hide (Fr.refl No w21))
    | (go_at_call 8; have mk := F19; clear mk; refine (reader_new w19 #[.int .u8 5] [5] 1 rfl rfl (by omega)).mono ?_; rintro en w20 ⟨g3, rfl, hg, hrd, hfr⟩; have R3 := hide hrd; have HG3F := hide (Nat.le_trans F19.out.size hg); have HG3A := hide (Nat.le_trans A19.out.size hg); have HG3B := hide (Nat.le_trans B19.out.size hg); clear hrd hg; have F20 := hide (F19.out.tr hfr); clear F19; have A20 := hide (A19.out.tr hfr); clear A19; have B20 := hide (B19.out.tr hfr); clear B19; clear hfr)
    | (go_at_call 32; have mk := F18; clear mk; refine (knB _ _ R2.out).mono ?_; rintro en w19 ⟨v2, rfl, hown, hrd, hfr⟩; obtain ⟨A2, c2, rfl, _⟩ := hown.form; have S2 := hide hrd; clear hrd hown; have F19 := hide (F18.out.own1 hfr HG2F.out); clear F18; have A19 := hide (A18.out.own1 hfr HG2A.out); clear A18; clear hfr; have B19 := hide (Fr.refl No w19))
    | (go_at_call 8; have mk := F17; clear mk; refine (reader_new w17 #[.int .u8 97, .int .u8 98] [97, 98] 2 rfl rfl (by omega)).mono ?_; rintro en w18 ⟨g2, rfl, hg, hrd, hfr⟩; have R2 := hide hrd; have HG2F := hide (Nat.le_trans F17.out.size hg); have HG2A := hide (Nat.le_trans A17.out.size hg); clear hrd hg; have F18 := hide (F17.out.tr hfr); clear F17; have A18 := hide (A17.out.tr hfr); clear A17; clear hfr)
    | (go_at_call 24; have mk := F16; clear mk; refine (knT _ _ R1.out).mono ?_; rintro en w17 ⟨rfl, hrd, hfr⟩; have S1 := hide hrd; clear hrd; have F17 := hide (F16.out.own1 hfr HG1F.out); clear F16; clear hfr; have A17 := hide (Fr.refl No w17))
    | (go_at_call 8; have mk := F15; clear mk; refine (reader_new w15 #[.int .u8 2, .int .u8 97, .int .u8 98] [2, 97, 98] 3 rfl rfl (by omega)).mono ?_; rintro en w16 ⟨g1, rfl, hg, hrd, hfr⟩; have R1 := hide hrd; have HG1F := hide (Nat.le_trans F15.out.size hg); clear hrd hg; have F16 := hide (F15.out.tr hfr); clear F15; clear hfr)
    | (go_at_call 14; have mk := F14; clear mk; refine (kbytes_new w14 #[.int .u8 9, .int .u8 2, .int .u8 97, .int .u8 98] [9, 2, 97, 98] 4 rfl rfl (by omega) T9 d9 _ hq9 hp9 Q9.out).mono ?_; rintro en w15 ⟨rfl, hfr⟩; have F15 := hide (F14.out.tr hfr); clear F14; clear hfr)
    | (go_at_call 18; have mk := F13; clear mk; refine (putText_new w13 #[.int .u8 9] [9] 1 rfl rfl (by omega) _ 4 [9, 2, 97, 98] (by decide) (by decide +kernel) rfl).mono ?_; rintro en w14 ⟨T9, d9, rfl, hq9, hp9, hr, hfr⟩; have Q9 := hide hr; clear hr; have F14 := hide (F13.out.tr hfr); clear F13; clear hfr)
    | (go_at_call 31; have mk := F12; clear mk; refine (signed_true _ T2 10 d2 _ [255, 255, 255, 255, 255, 255, 255, 255, 255, 1] (-9223372036854775808) (by omega) (by omega) rfl hq2 hp2 Q2.out (by decide +kernel)).mono ?_; rintro en w13 ⟨rfl, hfr⟩; have F13 := hide (F12.out.tr hfr); clear F12; clear hfr)
    | (go_at_call 30; have mk := F11; clear mk; refine (times_new w11 #[.int .u8 1] [1] 1 rfl rfl (by omega) 9 10 9 255 255 rfl rfl (by omega) rfl).mono ?_; rintro en w12 ⟨T2, d2, rfl, hq2, hp2, hr, hfr⟩; have Q2 := hide hr; clear hr; have F12 := hide (F11.out.tr hfr); clear F11; clear hfr)
    | (go_at_call 31; have mk := F10; clear mk; refine (signed_new w10 #[.int .u8 128, .int .u8 1] [128, 1] 2 rfl rfl (by omega) (64) (by omega) (by omega) (by decide +kernel)).mono ?_; rintro en w11 ⟨rfl, hfr⟩; have F11 := hide (F10.out.tr hfr); clear F10; clear hfr)
    | (go_at_call 31; have mk := F9; clear mk; refine (signed_new w9 #[.int .u8 127] [127] 1 rfl rfl (by omega) (-64) (by omega) (by omega) (by decide +kernel)).mono ?_; rintro en w10 ⟨rfl, hfr⟩; have F10 := hide (F9.out.tr hfr); clear F9; clear hfr)
    | (go_at_call 31; have mk := F8; clear mk; refine (signed_new w8 #[.int .u8 2] [2] 1 rfl rfl (by omega) (1) (by omega) (by omega) (by decide +kernel)).mono ?_; rintro en w9 ⟨rfl, hfr⟩; have F9 := hide (F8.out.tr hfr); clear F8; clear hfr)
    | (go_at_call 31; have mk := F7; clear mk; refine (signed_new w7 #[.int .u8 1] [1] 1 rfl rfl (by omega) (-1) (by omega) (by omega) (by decide +kernel)).mono ?_; rintro en w8 ⟨rfl, hfr⟩; have F8 := hide (F7.out.tr hfr); clear F7; clear hfr)
    | (go_at_call 31; have mk := F6; clear mk; refine (signed_new w6 #[.int .u8 0] [0] 1 rfl rfl (by omega) (0) (by omega) (by omega) (by decide +kernel)).mono ?_; rintro en w7 ⟨rfl, hfr⟩; have F7 := hide (F6.out.tr hfr); clear F6; clear hfr)
    | (go_at_call 29; have mk := F5; clear mk; refine (unsigned_true _ T1 10 d1 _ [255, 255, 255, 255, 255, 255, 255, 255, 255, 1] 18446744073709551615 18446744073709551615 rfl (by omega) rfl hq1 hp1 Q1.out (by decide +kernel)).mono ?_; rintro en w6 ⟨rfl, hfr⟩; have F6 := hide (F5.out.tr hfr); clear F5; clear hfr)
    | (go_at_call 30; have mk := F4; clear mk; refine (times_new w4 #[.int .u8 1] [1] 1 rfl rfl (by omega) 9 10 9 255 255 rfl rfl (by omega) rfl).mono ?_; rintro en w5 ⟨T1, d1, rfl, hq1, hp1, hr, hfr⟩; have Q1 := hide hr; clear hr; have F5 := hide (F4.out.tr hfr); clear F4; clear hfr)
    | (go_at_call 29; have mk := F3; clear mk; refine (unsigned_new w3 #[.int .u8 128, .int .u8 1] [128, 1] 2 rfl rfl (by omega) 128 128 rfl (by omega) (by decide +kernel)).mono ?_; rintro en w4 ⟨rfl, hfr⟩; have F4 := hide (F3.out.tr hfr); clear F3; clear hfr)
    | (go_at_call 29; have mk := F2; clear mk; refine (unsigned_new w2 #[.int .u8 127] [127] 1 rfl rfl (by omega) 127 127 rfl (by omega) (by decide +kernel)).mono ?_; rintro en w3 ⟨rfl, hfr⟩; have F3 := hide (F2.out.tr hfr); clear F2; clear hfr)
    | (go_at_call 29; have mk := F1; clear mk; refine (unsigned_new w1 #[.int .u8 0] [0] 1 rfl rfl (by omega) 0 0 rfl (by omega) (by decide +kernel)).mono ?_; rintro en w2 ⟨rfl, hfr⟩; have F2 := hide (F1.out.tr hfr); clear F1; clear hfr)
    | (go_at_call 13; have mk := F0; clear mk; refine (awake_any _).mono ?_; rintro en w1 ⟨rfl, hfr⟩; have F1 := hide (F0.out.tr hfr); clear F0; clear hfr))
  go_ret
  exact ⟨rfl, F37.out⟩
end Go.Proofs.Ytpcoadbbngmpbaa
