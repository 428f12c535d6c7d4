/- The walk of LiveKnown: it answers true; nothing that was there has changed. Condition: the library's table lies as laid. -/
import Derived.Test.YtapfbjaopbcgjaaDoorLiveKnP
import Derived.Test.YtapfbjaopbcgjaaDoorBadW
import Derived.Test.YtapfbjaopbcgjaaDoorAndW
namespace Go.Proofs.YtapfbjaopbcgjaaDoor
set_option linter.unusedVariables false
set_option linter.unusedSimpArgs false
open Go.RowKit

theorem Rd.lit8 {W : World} {cs : Array Value} {e : TypeId} {l : List UInt8} (h : cs.toList = by8 l) : Rd (W.alloc (.cells cs e)) (W.heap.size + 1) (some ⟨W.heap.size, 0, none⟩) (by8 l) := by
  rw [← h]
  exact Rd.block (heap_alloc_new W _)
set_option maxRecDepth 100000 in
set_option maxHeartbeats 4000000 in
theorem liveKnown_any (w : World) (hT : Tab w) : Calls Tryd.prog 7 #[] w (RetB true w) := by
  have HT := hide hT
  have HAw := hide (fun W (f : Fr No w W) => awake14_any W (hT.fr0 f))
  have HA8 := hide (fun W (f : Fr No w W) => at_lit 8 [0, 2] kn_at8 (by decide) W (hT.fr0 f))
  have H1 := hide (full_any 3 w (by omega) (by omega))
  rw [kn_full3] at H1
  clear hT
  go_enter Tryd.func7, Tryd.ntmps7
  go_wp2_with (fail)
  refine H1.out.mono ?_
  rintro en w1 ⟨gf, wf, rfl, hbt, hfr⟩
  have P1 := hide hbt
  have F1 := hide hfr
  clear hbt hfr H1
  go_wp2_with (fail)
  have fa := hide ((Fr.refl No w1).alloc (.cells #[.int .i64 0, .int .i64 2] 3))
  have H2 := hide (of_any 3 (some ⟨w1.heap.size, 0, none⟩) 2 2 (w1.heap.size + 1) [0, 2] (w1.alloc (.cells #[.int .i64 0, .int .i64 2] 3)) (by omega) rfl (Nat.le_refl _) (by unfold maxLen; omega) (by simp) (Rd.lit rfl))
  rw [kn_of3] at H2
  refine H2.out.mono ?_
  rintro en w2 ⟨go, wo, rfl, hbt, hfr⟩
  have f2 := hide (fa.out.tr hfr)
  have P2 := hide (P1.out.fr0 f2.out)
  have O2 := hide hbt
  have F2 := hide (F1.out.tr f2.out)
  clear hbt hfr H2 fa P1 f2
  go_wp2_with (fail)
  have H3 := hide (minus_any (.inr ⟨gf, wf, rfl, P2.out⟩) (.inr ⟨go, wo, rfl, O2.out⟩) (by decide) (by decide))
  rw [kn_minus] at H3
  refine H3.out.mono ?_
  rintro en w3 ⟨gm, wm, rfl, hbt, hfr⟩
  have P3 := hide (P2.out.fr0 hfr)
  have M3 := hide hbt
  have F3 := hide (F2.out.tr hfr)
  clear hbt hfr H3 O2 P2
  go_wp2_with (fail)
  have fa := hide ((Fr.refl No w3).alloc (.cells #[.int .u8 10, .int .u8 2, .int .u8 2] 5))
  have H4 := hide (read_any (some ⟨w3.heap.size, 0, none⟩) 3 3 (w3.heap.size + 1) [10, 2, 2] (w3.alloc (.cells #[.int .u8 10, .int .u8 2, .int .u8 2] 5)) rfl (Nat.le_refl _) (by unfold maxLen; omega) (by omega) (by simp) (Rd.lit8 rfl))
  refine H4.out.mono ?_
  rintro en w4 ⟨v, e, rfl, hv, hfr⟩
  have f4 := hide (fa.out.tr hfr)
  obtain ⟨gb, wb, rfl, B4, rfl⟩ : ∃ g gw, v = .pointer (some ⟨g, 0, none⟩) ∧ Hid (BT w4 (w3.alloc (.cells #[.int .u8 10, .int .u8 2, .int .u8 2] 5)).heap.size g gw (ofL 10 [1, 9])) ∧ e = 0 := by
    rcases hv with ⟨h, _⟩ | ⟨_, he, g, gw, hv, hb⟩
    · exact absurd kn_reads h
    · rw [kn_readL] at hb
      exact ⟨g, gw, hv, hide hb, he⟩
  have P4 := hide (P3.out.fr0 f4.out)
  have M4 := hide (M3.out.fr0 f4.out)
  have F4 := hide (F3.out.tr f4.out)
  clear hv hfr H4 fa P3 M3 f4
  go_wp2_with (fail)
  have H5 := hide (set_out 0 (.pointer none) [] 0 w4 (.inl ⟨rfl, rfl⟩) (by simp))
  refine H5.out.mono ?_
  rintro en wv ⟨⟨v5, rfl⟩, rfl⟩
  clear H5
  go_wp2_with (fail)
  refine (HAw.out w4 F4.out).mono ?_
  rintro en w5 ⟨rfl, hfr⟩
  have g5 := hide hfr
  have F5 := hide (F4.out.tr hfr)
  clear hfr
  go_wp2_with (fail)
  have HH := hide (HA8.out w5 F5.out)
  refine HH.out.mono ?_
  rintro en w6 ⟨v, rfl, hown, hfr⟩
  have OO := hide hown
  obtain ⟨Av, cv, rfl, p1, p2, _⟩ := hown.form
  have p1' : 2 ≤ cv := p1
  clear HH hown p1
  have g6 := hide ((g5.out).tr hfr)
  have F6 := hide ((F5.out).tr hfr)
  clear hfr
  go_wp2_with (fail)
  have HI : Hid (Calls Tryd.prog 34 #[.slice Av 2 cv, .slice (some ⟨w6.heap.size, 0, none⟩) 2 2] (w6.alloc (.cells #[.int .i64 0, .int .i64 2] 3)) (RetB true (w6.alloc (.cells #[.int .i64 0, .int .i64 2] 3)))) := hide (same_ints Av _ 2 cv 2 [0, 2] _ rfl p1' p2 (Nat.le_refl _) (by unfold maxLen; omega) (OO.out.fr0 ((Fr.refl No w6).alloc _)).rd (by rw [ints_iz]; exact (Rd.lit rfl).more (by simp)))
  refine HI.out.mono ?_
  rintro en w7 ⟨rfl, hfr⟩
  clear HI OO p1' p2
  have g7 := hide ((g6.out.alloc (.cells #[.int .i64 0, .int .i64 2] 3)).tr hfr)
  have F7 := hide ((F6.out.alloc (.cells #[.int .i64 0, .int .i64 2] 3)).tr hfr)
  clear hfr
  go_wp2_with (fail)
  have HH := hide (bytesL_any _ (.pointer (some ⟨gf, 0, none⟩)) [true, true, true] w7 (.inr ⟨gf, wf, rfl, P4.out.fr0 g7.out⟩) (HT.out.fr0 F7.out) (by decide))
  rw [kn_e3] at HH
  refine HH.out.mono ?_
  rintro en w8 ⟨v, rfl, hown, hfr⟩
  have OO := hide hown
  obtain ⟨Av, cv, rfl, p1, p2, _⟩ := hown.form
  have p1' : 2 ≤ cv := p1
  clear HH hown p1
  have g8 := hide ((g7.out).tr hfr)
  have F8 := hide ((F7.out).tr hfr)
  clear hfr
  go_wp2_with (fail)
  have HI : Hid (Calls Tryd.prog 36 #[.slice Av 2 cv, .slice (some ⟨w8.heap.size, 0, none⟩) 2 2] (w8.alloc (.cells #[.int .u8 3, .int .u8 7] 5)) (RetB true (w8.alloc (.cells #[.int .u8 3, .int .u8 7] 5)))) := hide (bytes_yes Av _ 2 cv 2 [3, 7] _ rfl p1' p2 (Nat.le_refl _) (by unfold maxLen; omega) (OO.out.fr0 ((Fr.refl No w8).alloc _)).rd ((Rd.lit8 rfl).more (by simp)))
  refine HI.out.mono ?_
  rintro en w9 ⟨rfl, hfr⟩
  clear HI OO p1' p2
  have g9 := hide ((g8.out.alloc (.cells #[.int .u8 3, .int .u8 7] 5)).tr hfr)
  have F9 := hide ((F8.out.alloc (.cells #[.int .u8 3, .int .u8 7] 5)).tr hfr)
  clear hfr
  go_wp2_with (fail)
  have HH := hide (eachL_any _ (.pointer (some ⟨gm, 0, none⟩)) [false, true, false] 9 w9 (.inr ⟨gm, wm, rfl, M4.out.fr0 g9.out⟩) (HT.out.fr0 F9.out) (by decide) (by omega) (by omega))
  rw [kn_held1] at HH
  refine HH.out.mono ?_
  rintro en w10 ⟨v, rfl, hown, hfr⟩
  have OO := hide hown
  obtain ⟨Av, cv, rfl, p1, p2, _⟩ := hown.form
  have p1' : 1 ≤ cv := p1
  clear HH hown p1
  have g10 := hide ((g9.out).tr hfr)
  have F10 := hide ((F9.out).tr hfr)
  clear hfr
  go_wp2_with (fail)
  have HI : Hid (Calls Tryd.prog 34 #[.slice Av 1 cv, .slice (some ⟨w10.heap.size, 0, none⟩) 1 1] (w10.alloc (.cells #[.int .i64 1] 3)) (RetB true (w10.alloc (.cells #[.int .i64 1] 3)))) := hide (same_ints Av _ 1 cv 1 [1] _ rfl p1' p2 (Nat.le_refl _) (by unfold maxLen; omega) (OO.out.fr0 ((Fr.refl No w10).alloc _)).rd (by rw [ints_iz]; exact (Rd.lit rfl).more (by simp)))
  refine HI.out.mono ?_
  rintro en w11 ⟨rfl, hfr⟩
  clear HI OO p1' p2
  have g11 := hide ((g10.out.alloc (.cells #[.int .i64 1] 3)).tr hfr)
  have F11 := hide ((F10.out.alloc (.cells #[.int .i64 1] 3)).tr hfr)
  clear hfr
  go_wp2_with (fail)
  have HH := hide (eachL_any _ (.pointer (some ⟨gb, 0, none⟩)) (ofL 10 [1, 9]) 9 w11 (.inr ⟨gb, wb, rfl, B4.out.fr0 g11.out⟩) (HT.out.fr0 F11.out) (by decide) (by omega) (by omega))
  rw [kn_held2] at HH
  refine HH.out.mono ?_
  rintro en w12 ⟨v, rfl, hown, hfr⟩
  have OO := hide hown
  obtain ⟨Av, cv, rfl, p1, p2, _⟩ := hown.form
  have p1' : 2 ≤ cv := p1
  clear HH hown p1
  have g12 := hide ((g11.out).tr hfr)
  have F12 := hide ((F11.out).tr hfr)
  clear hfr
  go_wp2_with (fail)
  have HI : Hid (Calls Tryd.prog 34 #[.slice Av 2 cv, .slice (some ⟨w12.heap.size, 0, none⟩) 2 2] (w12.alloc (.cells #[.int .i64 1, .int .i64 9] 3)) (RetB true (w12.alloc (.cells #[.int .i64 1, .int .i64 9] 3)))) := hide (same_ints Av _ 2 cv 2 [1, 9] _ rfl p1' p2 (Nat.le_refl _) (by unfold maxLen; omega) (OO.out.fr0 ((Fr.refl No w12).alloc _)).rd (by rw [ints_iz]; exact (Rd.lit rfl).more (by simp)))
  refine HI.out.mono ?_
  rintro en w13 ⟨rfl, hfr⟩
  clear HI OO p1' p2
  have g13 := hide ((g12.out.alloc (.cells #[.int .i64 1, .int .i64 9] 3)).tr hfr)
  have F13 := hide ((F12.out.alloc (.cells #[.int .i64 1, .int .i64 9] 3)).tr hfr)
  clear hfr
  go_wp2_with (fail)
  have HH := hide (bad_any (some ⟨w13.heap.size, 0, none⟩) 3 3 (w13.heap.size + 1) [10, 2, 4] (w13.alloc (.cells #[.int .u8 10, .int .u8 2, .int .u8 4] 5)) kn_bad1 rfl (Nat.le_refl _) (by unfold maxLen; omega) (by omega) (by simp) (Rd.lit8 rfl))
  refine HH.out.mono ?_
  rintro en w14 ⟨rfl, hfr⟩
  clear HH
  have g14 := hide ((g13.out.alloc (.cells #[.int .u8 10, .int .u8 2, .int .u8 4] 5)).tr hfr)
  have F14 := hide ((F13.out.alloc (.cells #[.int .u8 10, .int .u8 2, .int .u8 4] 5)).tr hfr)
  clear hfr
  go_wp2_with (fail)
  have HH := hide (bad_any (some ⟨w14.heap.size, 0, none⟩) 2 2 (w14.heap.size + 1) [10, 2] (w14.alloc (.cells #[.int .u8 10, .int .u8 2] 5)) kn_bad2 rfl (Nat.le_refl _) (by unfold maxLen; omega) (by omega) (by simp) (Rd.lit8 rfl))
  refine HH.out.mono ?_
  rintro en w15 ⟨rfl, hfr⟩
  clear HH
  have g15 := hide ((g14.out.alloc (.cells #[.int .u8 10, .int .u8 2] 5)).tr hfr)
  have F15 := hide ((F14.out.alloc (.cells #[.int .u8 10, .int .u8 2] 5)).tr hfr)
  clear hfr
  go_wp2_with (fail)
  have HH := hide (bad_any none 0 0 0 [] w15 kn_bad3 rfl (Nat.le_refl _) (by unfold maxLen; omega) (by omega) (by omega) (Rd.nil _ _ _))
  refine HH.out.mono ?_
  rintro en w16 ⟨rfl, hfr⟩
  clear HH
  have g16 := hide ((g15.out).tr hfr)
  have F16 := hide ((F15.out).tr hfr)
  clear hfr
  go_wp2_with (fail)
  have HH := hide (bad_any (some ⟨w16.heap.size, 0, none⟩) 2 2 (w16.heap.size + 1) [0, 0] (w16.alloc (.cells #[.int .u8 0, .int .u8 0] 5)) kn_bad4 rfl (Nat.le_refl _) (by unfold maxLen; omega) (by omega) (by simp) (Rd.lit8 rfl))
  refine HH.out.mono ?_
  rintro en w17 ⟨rfl, hfr⟩
  clear HH
  have g17 := hide ((g16.out.alloc (.cells #[.int .u8 0, .int .u8 0] 5)).tr hfr)
  have F17 := hide ((F16.out.alloc (.cells #[.int .u8 0, .int .u8 0] 5)).tr hfr)
  clear hfr
  go_wp2_with (fail)
  have HH := hide (len_any 0 (.pointer none) [] w17 (.inl ⟨rfl, rfl⟩))
  refine HH.out.mono ?_
  rintro en wv ⟨rfl, rfl⟩
  clear HH
  go_wp2_with (fail)
  have HH := hide (count_any 0 (.pointer none) [] w17 (.inl ⟨rfl, rfl⟩))
  refine HH.out.mono ?_
  rintro en wv ⟨rfl, rfl⟩
  clear HH
  go_wp2_with (fail)
  have HH := hide (has_any 0 (.pointer none) [] 0 w17 (.inl ⟨rfl, rfl⟩))
  refine HH.out.mono ?_
  rintro en wv ⟨rfl, rfl⟩
  clear HH
  go_wp2_with (fail)
  have HH := hide (bytesL_any 0 (.pointer none) [] w17 (.inl ⟨rfl, rfl⟩) (HT.out.fr0 F17.out) (by decide))
  rw [kn_e0] at HH
  refine HH.out.mono ?_
  rintro en w18 ⟨v, rfl, hown, hfr⟩
  have OO := hide hown
  obtain ⟨Av, cv, rfl, p1, p2, _⟩ := hown.form
  have p1' : 1 ≤ cv := p1
  clear HH hown p1
  have g18 := hide ((g17.out).tr hfr)
  have F18 := hide ((F17.out).tr hfr)
  clear hfr
  go_wp2_with (fail)
  have HI : Hid (Calls Tryd.prog 36 #[.slice Av 1 cv, .slice (some ⟨w18.heap.size, 0, none⟩) 1 1] (w18.alloc (.cells #[.int .u8 0] 5)) (RetB true (w18.alloc (.cells #[.int .u8 0] 5)))) := hide (bytes_yes Av _ 1 cv 1 [0] _ rfl p1' p2 (Nat.le_refl _) (by unfold maxLen; omega) (OO.out.fr0 ((Fr.refl No w18).alloc _)).rd ((Rd.lit8 rfl).more (by simp)))
  refine HI.out.mono ?_
  rintro en w19 ⟨rfl, hfr⟩
  clear HI OO p1' p2
  have g19 := hide ((g18.out.alloc (.cells #[.int .u8 0] 5)).tr hfr)
  have F19 := hide ((F18.out.alloc (.cells #[.int .u8 0] 5)).tr hfr)
  clear hfr
  go_wp2_with (fail)
  have HH := hide (or_any (w := w19) (B1 := 0) (v1 := .pointer none) (.inl ⟨rfl, rfl⟩) (.inr ⟨gf, wf, rfl, P4.out.fr0 g19.out⟩) (by decide) (by decide))
  rw [kn_or0] at HH
  refine HH.out.mono ?_
  rintro en w20 ⟨ga, qa, rfl, hbt, hfr⟩
  have Ba := hide hbt
  clear HH hbt
  have g20 := hide ((g19.out).tr hfr)
  have F20 := hide ((F19.out).tr hfr)
  clear hfr
  go_wp2_with (fail)
  have HH := hide (len_any _ _ [] w20 (.inr ⟨ga, qa, rfl, Ba.out⟩))
  refine HH.out.mono ?_
  rintro en wv ⟨rfl, rfl⟩
  clear HH
  go_wp2_with (fail)
  have HH := hide (or_any (w := w20) (B1 := 0) (v1 := .pointer none) (.inl ⟨rfl, rfl⟩) (.inr ⟨gf, wf, rfl, P4.out.fr0 g20.out⟩) (by decide) (by decide))
  rw [kn_or0] at HH
  refine HH.out.mono ?_
  rintro en w21 ⟨gc, qc, rfl, hbt, hfr⟩
  have Bc := hide hbt
  clear HH hbt
  have g21 := hide ((g20.out).tr hfr)
  have F21 := hide ((F20.out).tr hfr)
  clear hfr
  go_wp2_with (fail)
  have HH := hide (and_any (w := w21) (B2 := 0) (v2 := .pointer none) (.inr ⟨gf, wf, rfl, P4.out.fr0 g21.out⟩) (.inl ⟨rfl, rfl⟩) (by decide) (by decide))
  refine HH.out.mono ?_
  rintro en w22 ⟨gd, qd, rfl, hbt, hfr⟩
  have Bd := hide hbt
  clear HH hbt
  have g22 := hide ((g21.out).tr hfr)
  have F22 := hide ((F21.out).tr hfr)
  clear hfr
  go_wp2_with (fail)
  have HH := hide (count_any _ _ _ w22 (.inr ⟨gd, qd, rfl, Bd.out⟩))
  rw [kn_and0] at HH
  refine HH.out.mono ?_
  rintro en wv ⟨rfl, rfl⟩
  clear HH
  go_wp2_with (fail)
  have HH := hide (or_any (w := w22) (B2 := 0) (v2 := .pointer none) (.inr ⟨gf, wf, rfl, P4.out.fr0 g22.out⟩) (.inl ⟨rfl, rfl⟩) (by decide) (by decide))
  refine HH.out.mono ?_
  rintro en w23 ⟨ge, qe, rfl, hbt, hfr⟩
  have Be := hide hbt
  clear HH hbt
  have g23 := hide ((g22.out).tr hfr)
  have F23 := hide ((F22.out).tr hfr)
  clear hfr
  go_wp2_with (fail)
  have HH := hide (count_any _ _ _ w23 (.inr ⟨ge, qe, rfl, Be.out⟩))
  rw [kn_or3] at HH
  refine HH.out.mono ?_
  rintro en wv ⟨rfl, rfl⟩
  clear HH
  go_wp2_with (fail)
  have HH := hide (full_any (-1) w23 (by omega) (by omega))
  rw [kn_neg] at HH
  refine HH.out.mono ?_
  rintro en w24 ⟨gh, qh, rfl, hbt, hfr⟩
  have Bh := hide hbt
  clear HH hbt
  have g24 := hide ((g23.out).tr hfr)
  have F24 := hide ((F23.out).tr hfr)
  clear hfr
  go_wp2_with (fail)
  have HH := hide (len_any _ _ [] w24 (.inr ⟨gh, qh, rfl, Bh.out⟩))
  refine HH.out.mono ?_
  rintro en wv ⟨rfl, rfl⟩
  clear HH
  go_wp2_with (fail)
  have HH := hide (full_any 16385 w24 (by omega) (by omega))
  rw [kn_big] at HH
  refine HH.out.mono ?_
  rintro en w25 ⟨gi, qi, rfl, hbt, hfr⟩
  have Bi := hide hbt
  clear HH hbt
  have g25 := hide ((g24.out).tr hfr)
  have F25 := hide ((F24.out).tr hfr)
  clear hfr
  go_wp2_with (fail)
  have HH := hide (count_any _ _ _ w25 (.inr ⟨gi, qi, rfl, Bi.out⟩))
  rw [kn_all] at HH
  refine HH.out.mono ?_
  rintro en wv ⟨rfl, rfl⟩
  clear HH
  go_wp2_with (fail)
  have HH := hide (of_any 200 (some ⟨w25.heap.size, 0, none⟩) 4 4 (w25.heap.size + 1) [64, 63, 128, 199] (w25.alloc (.cells #[.int .i64 64, .int .i64 63, .int .i64 128, .int .i64 199] 3)) (by omega) rfl (Nat.le_refl _) (by unfold maxLen; omega) (by simp) (Rd.lit rfl))
  refine HH.out.mono ?_
  rintro en w26 ⟨gj, qj, rfl, hbt, hfr⟩
  have Bj := hide hbt
  clear HH hbt
  have g26 := hide ((g25.out.alloc (.cells #[.int .i64 64, .int .i64 63, .int .i64 128, .int .i64 199] 3)).tr hfr)
  have F26 := hide ((F25.out.alloc (.cells #[.int .i64 64, .int .i64 63, .int .i64 128, .int .i64 199] 3)).tr hfr)
  clear hfr
  go_wp2_with (fail)
  have HH := hide (count_any _ _ _ w26 (.inr ⟨gj, qj, rfl, Bj.out⟩))
  rw [kn_four] at HH
  refine HH.out.mono ?_
  rintro en wv ⟨rfl, rfl⟩
  clear HH
  go_wp2_with (fail)
  have HH := hide (full_any 3 w26 (by omega) (by omega))
  rw [kn_full3] at HH
  refine HH.out.mono ?_
  rintro en w27 ⟨gl, ql, rfl, hbt, hfr⟩
  have Bl := hide hbt
  clear HH hbt
  have g27 := hide ((g26.out).tr hfr)
  have F27 := hide ((F26.out).tr hfr)
  clear hfr
  go_wp2_with (fail)
  have HH := hide (full_any 9 w27 (by omega) (by omega))
  refine HH.out.mono ?_
  rintro en w28 ⟨gm9, qm9, rfl, hbt, hfr⟩
  have Bm9 := hide hbt
  have fl := hide hfr
  clear HH hbt
  have g28 := hide ((g27.out).tr hfr)
  have F28 := hide ((F27.out).tr hfr)
  clear hfr
  go_wp2_with (fail)
  have HH := hide (or_any (w := w28) (.inr ⟨gl, ql, rfl, Bl.out.fr0 ((show Hid (Fr No w27 w28) from fl).out)⟩) (.inr ⟨gm9, qm9, rfl, Bm9.out⟩) (by decide) (by decide))
  refine HH.out.mono ?_
  rintro en w29 ⟨go, qo, rfl, hbt, hfr⟩
  have Bo := hide hbt
  clear HH hbt
  have g29 := hide ((g28.out).tr hfr)
  have F29 := hide ((F28.out).tr hfr)
  clear hfr
  go_wp2_with (fail)
  have HH := hide (count_any _ _ _ w29 (.inr ⟨go, qo, rfl, Bo.out⟩))
  rw [kn_or39] at HH
  refine HH.out.mono ?_
  rintro en wv ⟨rfl, rfl⟩
  clear HH
  go_wp2_with (fail)
  go_ret
  exact ⟨rfl, F29.out⟩
end Go.Proofs.YtapfbjaopbcgjaaDoor
