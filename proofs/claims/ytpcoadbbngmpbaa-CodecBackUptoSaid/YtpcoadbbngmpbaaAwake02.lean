/- The chapter's answers (codec): unsigned, awake. -/
import Derived.Test.YtpcoadbbngmpbaaTakeU
import Derived.Test.YtpcoadbbngmpbaaTakeS
import Derived.Test.YtpcoadbbngmpbaaPutU
import Derived.Test.YtpcoadbbngmpbaaKit8
namespace Go.Proofs.Ytpcoadbbngmpbaa
set_option linter.unusedVariables false
set_option linter.unusedSimpArgs false
open Go.RowKit

set_option maxRecDepth 100000 in
set_option maxHeartbeats 400000 in
theorem unsigned_any (u : Nat) (B : Option Addr) (m d b2 : Nat) (ys : List UInt8) (w : World) (hu : u < 18446744073709551616) (hy : ys.length = m) (hm : m ≤ d) (hd : d ≤ maxLen) (hs : Rd w b2 B (by8 ys)) :
    Calls Try.prog 29 #[.int .u64 u, .slice B m d] w (RetB (decide (enc u = ys)) w) := by
  have H := hide (putU_any none 0 0 0 [] u w rfl (Nat.le_refl _) (Nat.zero_le _) (by omega) (Nat.zero_le _) (Rd.nil _ _ _) hu)
  have HS := hide hs
  clear hs
  go_enter Try.func29, Try.ntmps29
  go_wp2_with (first | (go_at_call 15; refine H.out.mono ?_; rintro en w1 ⟨v1, rfl, hown, hfr⟩; obtain ⟨A1, k1, rfl, hq1, hq2, _, hq3, _⟩ := hown.form; have HQ := hide hq3; have HF := hide hfr; clear hown hfr hq3) | (go_at_call 14; refine (kbytes_any A1 B _ k1 m d _ b2 ([] ++ enc u) ys w1 rfl hy hq1 hq2 hm hd HQ.out (HS.out.fr0 HF.out)).mono ?_; rintro en w2 ⟨rfl, nq, rfl⟩))
  go_ret
  exact ⟨by simp, HF.out.drewN _⟩

def aw0 : List UInt8 := [172, 2, 1, 2, 97, 98, 5]

section
variable (g : Nat) (w : World)
theorem awU (h : RD w g aw0 0 0) : Calls Try.prog 9 #[.pointer (some ⟨g, 0, none⟩)] w (RDRet (.int .u64 300) w g aw0 2 0) := by
  have h1 := uint_any g aw0 0 0 w h
  have e : uintR aw0 0 0 = (300, 2, 0) := by decide +kernel
  rw [e] at h1
  exact h1
theorem awI (h : RD w g aw0 2 0) : Calls Try.prog 11 #[.pointer (some ⟨g, 0, none⟩)] w (RDRet (.int .i64 (-1)) w g aw0 3 0) := by
  have h1 := int_any g aw0 2 0 w h
  have e : uintR aw0 2 0 = (1, 3, 0) := by decide +kernel
  have e2 : unzz 1 = -1 := by decide +kernel
  rw [e, e2] at h1
  exact h1
theorem awT (h : RD w g aw0 3 0) : Calls Try.prog 24 #[.pointer (some ⟨g, 0, none⟩), .int .i64 2] w (RDRet (.string { data := #[97, 98] }) w g aw0 6 0) := by
  have h1 := text_any g aw0 3 0 2 w h (by decide) (by decide)
  have e : textS aw0 3 0 2 = ([97, 98], 6, 0) := by decide +kernel
  rw [e] at h1
  exact h1
theorem awL (h : RD w g aw0 6 0) : Calls Try.prog 10 #[.pointer (some ⟨g, 0, none⟩)] w (RetQ (.int .i64 1) w) := left_any g aw0 6 0 w h
theorem awEnd (h : RD w g aw0 6 0) : Calls Try.prog 25 #[.pointer (some ⟨g, 0, none⟩)] w (RDRet (.int .i64 20) w g aw0 6 20) := by
  have h1 := end_any g aw0 6 0 w h
  have e : endE aw0 6 0 = 20 := by decide +kernel
  rw [e] at h1
  exact h1
end

set_option maxRecDepth 100000 in
set_option maxHeartbeats 800000 in
theorem awake_any (w : World) : Calls Try.prog 13 #[] w (RetB true w) := by
  have HR := hide (Rd.new8 w #[.int .u8 172, .int .u8 2, .int .u8 1, .int .u8 2, .int .u8 97, .int .u8 98, .int .u8 5] aw0 5 rfl)
  have HA := hide ((Fr.refl No w).alloc (.cells #[.int .u8 172, .int .u8 2, .int .u8 1, .int .u8 2, .int .u8 97, .int .u8 98, .int .u8 5] 5))
  have HL : 7 ≤ maxLen := by unfold maxLen; omega
  have HL2 : 2 ≤ maxLen := by unfold maxLen; omega
  have HE : decide (enc 300 = [172, 2]) = true := by decide +kernel
  go_enter Try.func13, Try.ntmps13
  go_wp2_with (first
    | (go_at_call 8; refine (newReader_any (some ⟨w.heap.size, 0, none⟩) 7 7 _ aw0 _ rfl (Nat.le_refl _) HL (by omega) (Nat.le_refl _) HR.out).mono ?_; rintro en w1 ⟨g, rfl, hg, hrd, hfr⟩; have H1 := hide hrd; have F1 := hide (HA.out.tr hfr); have HG := hide hg; clear hrd hfr hg)
    | (go_at_call 9; refine (awU g _ H1.out).mono ?_; rintro en w2 ⟨rfl, hrd, hfr⟩; have H2 := hide hrd; have F2 := hide hfr; clear hrd hfr)
    | (go_at_call 11; refine (awI g _ H2.out).mono ?_; rintro en w3 ⟨rfl, hrd, hfr⟩; have H3 := hide hrd; have F3 := hide (F2.out.ts hfr); clear hrd hfr)
    | (go_at_call 24; refine (awT g _ H3.out).mono ?_; rintro en w4 ⟨rfl, hrd, hfr⟩; have H4 := hide hrd; have F4 := hide (F3.out.ts hfr); clear hrd hfr)
    | (go_at_call 10; refine (awL g _ H4.out).mono ?_; rintro en w5 ⟨rfl, nq, rfl⟩)
    | (go_at_call 12; refine (err_any g aw0 6 0 _ (H4.out.drewN nq)).mono ?_; rintro en w6 ⟨rfl, rfl⟩)
    | (go_at_call 25; refine (awEnd g _ (H4.out.drewN nq)).mono ?_; rintro en w7 ⟨rfl, hrd, hfr⟩; have F7 := hide ((F4.out.drewN nq).ts hfr); clear hrd hfr)
    | (go_at_call 29; refine (unsigned_any 300 (some ⟨w7.heap.size, 0, none⟩) 2 2 _ [172, 2] _ (by omega) rfl (Nat.le_refl _) HL2 (Rd.new8 w7 #[.int .u8 172, .int .u8 2] [172, 2] 5 rfl)).mono ?_; rw [HE]; rintro en w8 ⟨rfl, hfr⟩; have F8 := hide ((F7.out.alloc _).tr hfr); clear hfr))
  go_ret
  refine ⟨rfl, F1.out.trans F8.out ?_⟩
  rintro i hi rfl
  have := HG.out
  simp at this
  omega

end Go.Proofs.Ytpcoadbbngmpbaa
