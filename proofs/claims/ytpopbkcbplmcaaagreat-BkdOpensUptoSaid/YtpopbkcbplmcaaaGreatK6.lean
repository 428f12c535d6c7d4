/- Several texts in one: RefN, RefU, BkRq, BkRw, BkRx, BkW. -/
import Derived.Test.YtpopbkcbplmcaaaGreatK5
import Derived.Deep.RegionWith
import Derived.Deep.LoopGhost
import Derived.BigQuiet
namespace Go.Proofs.YtpopbkcbplmcaaaGreat
set_option linter.unusedVariables false
set_option linter.unusedSimpArgs false
open Go.RowKit

set_option maxRecDepth 100000 in
set_option maxHeartbeats 800000 in
theorem refN_bad1 (B g : Nat) (bs : List UInt8) (a : Nat) (w : World) (most : Int) (h : RS w B g bs a 0) (hd : dec 0 0 (bs.drop a) = none) :
    Calls Tryz.prog 27 #[.pointer (some ⟨g, 0, none⟩), .int .i64 most] w (RSRet (.int .i64 0) w B g bs a 20) := by
  obtain ⟨A, c, ⟨c0, c1, c2⟩, hf, h1, h2, h3, h4, hr, hB⟩ := h.parts
  have HN := hide (refnum_cut hr h1 h2 h3 hB hd)
  simp only [numW] at HN
  have H := hide h
  have HA := hide hr
  clear h hr hd
  by_cases hca : c = a
  · have HN1 := HN.out
    rw [if_pos hca, hca, Nat.sub_self] at HN1
    have HN2 := hide HN1
    clear HN HN1
    go_enter Tryz.func27, Tryz.ntmps27
    go_wp2_with (fail)
    go_region_with (go_at_call 45; refine (HN2.out w.drew rfl).mono ?_; rintro en w1 ⟨rfl, hfr⟩; have HF : Hid (Fr No w w1) := ⟨hfr.os, hfr.tape, hfr.output, hfr.size, hfr.block⟩; clear hfr; have HR1 := hide (H.out.fr0 HF.out); obtain ⟨A1, k1, ⟨e0, e1, e2⟩, hf1, q1, q2, _, _, _⟩ := HR1.out.parts)
    all_goals (try go_wp2)
    all_goals go_ret
    all_goals exact ⟨rfl, HR1.out.set2 20, (HF.out.any (Is g)).put _ _⟩
  · have HN1 := HN.out
    rw [if_neg hca] at HN1
    have HN2 := hide HN1
    clear HN HN1
    go_enter Tryz.func27, Tryz.ntmps27
    go_wp2_with (fail)
    go_region_with (go_at_call 45; refine (HN2.out w.drew rfl).mono ?_; rintro en w1 ⟨rfl, hfr⟩; have HF : Hid (Fr No w w1) := ⟨hfr.os, hfr.tape, hfr.output, hfr.size, hfr.block⟩; clear hfr; have HR1 := hide (H.out.fr0 HF.out); obtain ⟨A1, k1, ⟨e0, e1, e2⟩, hf1, q1, q2, _, _, _⟩ := HR1.out.parts)
    all_goals (try go_wp2)
    all_goals go_ret
    all_goals exact ⟨rfl, HR1.out.set2 20, (HF.out.any (Is g)).put _ _⟩

set_option maxRecDepth 100000 in
set_option maxHeartbeats 800000 in
theorem refN_bad2 (B g : Nat) (bs : List UInt8) (a : Nat) (w : World) (most : Int) (u k : Nat) (h : RS w B g bs a 0) (hd : dec 0 0 (bs.drop a) = some (u, k)) (hneg : most < 0) :
    Calls Tryz.prog 27 #[.pointer (some ⟨g, 0, none⟩), .int .i64 most] w (RSRet (.int .i64 0) w B g bs a 20) := by
  obtain ⟨A, c, ⟨c0, c1, c2⟩, hf, h1, h2, h3, h4, hr, hB⟩ := h.parts
  have HN := hide (refnum_cut hr h1 h2 h3 hB hd)
  simp only [numW] at HN
  have H := hide h
  have HA := hide hr
  have hk := dec_le _ _ _ _ _ hd
  have hk1 : a + k ≤ bs.length := by have := hk.2; simp at this; omega
  have hk0 : ((k : Int) == 0) = false := by have := hk.1; simp; omega
  have hu := dec_lt _ 0 0 u k (by decide) hd
  clear hk
  clear h hr hd
  by_cases hca : c = a
  · have HN1 := HN.out
    rw [if_pos hca, hca, Nat.sub_self] at HN1
    have HN2 := hide HN1
    clear HN HN1
    go_enter Tryz.func27, Tryz.ntmps27
    go_wp2_with (fail)
    go_region_with (go_at_call 45; refine (HN2.out w.drew rfl).mono ?_; rintro en w1 ⟨rfl, hfr⟩; have HF : Hid (Fr No w w1) := ⟨hfr.os, hfr.tape, hfr.output, hfr.size, hfr.block⟩; clear hfr; have HR1 := hide (H.out.fr0 HF.out); obtain ⟨A1, k1, ⟨e0, e1, e2⟩, hf1, q1, q2, _, _, _⟩ := HR1.out.parts)
    all_goals (try go_wp2)
    all_goals go_ret
    all_goals exact ⟨rfl, HR1.out.set2 20, (HF.out.any (Is g)).put _ _⟩
  · have HN1 := HN.out
    rw [if_neg hca] at HN1
    have HN2 := hide HN1
    clear HN HN1
    go_enter Tryz.func27, Tryz.ntmps27
    go_wp2_with (fail)
    go_region_with (go_at_call 45; refine (HN2.out w.drew rfl).mono ?_; rintro en w1 ⟨rfl, hfr⟩; have HF : Hid (Fr No w w1) := ⟨hfr.os, hfr.tape, hfr.output, hfr.size, hfr.block⟩; clear hfr; have HR1 := hide (H.out.fr0 HF.out); obtain ⟨A1, k1, ⟨e0, e1, e2⟩, hf1, q1, q2, _, _, _⟩ := HR1.out.parts)
    all_goals (try go_wp2)
    all_goals go_ret
    all_goals exact ⟨rfl, HR1.out.set2 20, (HF.out.any (Is g)).put _ _⟩

set_option maxRecDepth 100000 in
set_option maxHeartbeats 800000 in
theorem refN_bad3 (B g : Nat) (bs : List UInt8) (a : Nat) (w : World) (m : Nat) (u k : Nat) (h : RS w B g bs a 0) (hd : dec 0 0 (bs.drop a) = some (u, k)) (hm2 : (m : Int) ≤ 9223372036854775807) (hbig : m < u) :
    Calls Tryz.prog 27 #[.pointer (some ⟨g, 0, none⟩), .int .i64 m] w (RSRet (.int .i64 0) w B g bs a 20) := by
  obtain ⟨A, c, ⟨c0, c1, c2⟩, hf, h1, h2, h3, h4, hr, hB⟩ := h.parts
  have HN := hide (refnum_cut hr h1 h2 h3 hB hd)
  simp only [numW] at HN
  have H := hide h
  have HA := hide hr
  have hk := dec_le _ _ _ _ _ hd
  have hk1 : a + k ≤ bs.length := by have := hk.2; simp at this; omega
  have hk0 : ((k : Int) == 0) = false := by have := hk.1; simp; omega
  have hu := dec_lt _ 0 0 u k (by decide) hd
  clear hk
  clear h hr hd
  by_cases hca : c = a
  · have HN1 := HN.out
    rw [if_pos hca, hca, Nat.sub_self] at HN1
    have HN2 := hide HN1
    clear HN HN1
    go_enter Tryz.func27, Tryz.ntmps27
    go_wp2_with (fail)
    go_region_with (go_at_call 45; refine (HN2.out w.drew rfl).mono ?_; rintro en w1 ⟨rfl, hfr⟩; have HF : Hid (Fr No w w1) := ⟨hfr.os, hfr.tape, hfr.output, hfr.size, hfr.block⟩; clear hfr; have HR1 := hide (H.out.fr0 HF.out); obtain ⟨A1, k1, ⟨e0, e1, e2⟩, hf1, q1, q2, _, _, _⟩ := HR1.out.parts)
    all_goals (try go_wp2)
    all_goals go_ret
    all_goals exact ⟨rfl, HR1.out.set2 20, (HF.out.any (Is g)).put _ _⟩
  · have HN1 := HN.out
    rw [if_neg hca] at HN1
    have HN2 := hide HN1
    clear HN HN1
    go_enter Tryz.func27, Tryz.ntmps27
    go_wp2_with (fail)
    go_region_with (go_at_call 45; refine (HN2.out w.drew rfl).mono ?_; rintro en w1 ⟨rfl, hfr⟩; have HF : Hid (Fr No w w1) := ⟨hfr.os, hfr.tape, hfr.output, hfr.size, hfr.block⟩; clear hfr; have HR1 := hide (H.out.fr0 HF.out); obtain ⟨A1, k1, ⟨e0, e1, e2⟩, hf1, q1, q2, _, _, _⟩ := HR1.out.parts)
    all_goals (try go_wp2)
    all_goals go_ret
    all_goals exact ⟨rfl, HR1.out.set2 20, (HF.out.any (Is g)).put _ _⟩

set_option maxRecDepth 100000 in
set_option maxHeartbeats 800000 in
theorem refN_ok (B g : Nat) (bs : List UInt8) (a : Nat) (w : World) (m : Nat) (u k : Nat) (h : RS w B g bs a 0) (hd : dec 0 0 (bs.drop a) = some (u, k)) (hm2 : (m : Int) ≤ 9223372036854775807) (hfit : u ≤ m) :
    Calls Tryz.prog 27 #[.pointer (some ⟨g, 0, none⟩), .int .i64 m] w (RSRet (.int .i64 u) w B g bs (a + k) 0) := by
  obtain ⟨A, c, ⟨c0, c1, c2⟩, hf, h1, h2, h3, h4, hr, hB⟩ := h.parts
  have HN := hide (refnum_cut hr h1 h2 h3 hB hd)
  simp only [numW] at HN
  have H := hide h
  have HA := hide hr
  have hk := dec_le _ _ _ _ _ hd
  have hk1 : a + k ≤ bs.length := by have := hk.2; simp at this; omega
  have hk0 : ((k : Int) == 0) = false := by have := hk.1; simp; omega
  have hu := dec_lt _ 0 0 u k (by decide) hd
  clear hk
  clear h hr hd
  by_cases hca : c = a
  · have HN1 := HN.out
    rw [if_pos hca, hca, Nat.sub_self] at HN1
    have HN2 := hide HN1
    clear HN HN1
    go_enter Tryz.func27, Tryz.ntmps27
    go_wp2_with (fail)
    go_region_with (go_at_call 45; refine (HN2.out w.drew rfl).mono ?_; rintro en w1 ⟨rfl, hfr⟩; have HF : Hid (Fr No w w1) := ⟨hfr.os, hfr.tape, hfr.output, hfr.size, hfr.block⟩; clear hfr; have HR1 := hide (H.out.fr0 HF.out); obtain ⟨A1, k1, ⟨e0, e1, e2⟩, hf1, q1, q2, _, _, _⟩ := HR1.out.parts)
    all_goals (try go_wp2)
    all_goals go_ret
    all_goals exact ⟨by simp, HR1.out.set1 _ hk1, (HF.out.any (Is g)).put _ _⟩
  · have HN1 := HN.out
    rw [if_neg hca] at HN1
    have HN2 := hide HN1
    clear HN HN1
    go_enter Tryz.func27, Tryz.ntmps27
    go_wp2_with (fail)
    go_region_with (go_at_call 45; refine (HN2.out w.drew rfl).mono ?_; rintro en w1 ⟨rfl, hfr⟩; have HF : Hid (Fr No w w1) := ⟨hfr.os, hfr.tape, hfr.output, hfr.size, hfr.block⟩; clear hfr; have HR1 := hide (H.out.fr0 HF.out); obtain ⟨A1, k1, ⟨e0, e1, e2⟩, hf1, q1, q2, _, _, _⟩ := HR1.out.parts)
    all_goals (try go_wp2)
    all_goals go_ret
    all_goals exact ⟨by simp, HR1.out.set1 _ hk1, (HF.out.any (Is g)).put _ _⟩

set_option maxRecDepth 100000 in
set_option maxHeartbeats 800000 in
theorem refN_off (B g : Nat) (bs : List UInt8) (a : Nat) (e : Int) (w : World) (most : Int) (h : RS w B g bs a e) (he : e ≠ 0) :
    Calls Tryz.prog 27 #[.pointer (some ⟨g, 0, none⟩), .int .i64 most] w (RSRet (.int .i64 0) w B g bs a e) := by
  obtain ⟨A, c, ⟨c0, c1, c2⟩, hf, h1, h2, h3, h4, hr, hB⟩ := h.parts
  have hb : (e != 0) = true := by simpa using he
  have H := hide h
  clear h hr he
  go_enter Tryz.func27, Tryz.ntmps27
  go_wp2_with (fail)
  go_ret
  exact ⟨rfl, H.out, Fr.refl _ _⟩

set_option maxRecDepth 100000 in
set_option maxHeartbeats 800000 in
theorem refN_nil (w : World) (most : Int) :
    Calls Tryz.prog 27 #[.pointer none, .int .i64 most] w (Ret (.int .i64 0) w) := by
  go_enter Tryz.func27, Tryz.ntmps27
  go_wp2_with (fail)
  go_ret
  exact ⟨rfl, rfl⟩

theorem refN_any (B g : Nat) (bs : List UInt8) (a : Nat) (e most : Int) (w : World) (h : RS w B g bs a e) (hm2 : most ≤ 9223372036854775807) :
    Calls Tryz.prog 27 #[.pointer (some ⟨g, 0, none⟩), .int .i64 most] w (RSRet (.int .i64 (sizeS bs a e most).1) w B g bs (sizeS bs a e most).2.1 (sizeS bs a e most).2.2) := by
  unfold sizeS
  by_cases he : e = 0
  · subst he
    rw [if_pos rfl]
    cases hd : dec 0 0 (bs.drop a) with
    | none => rw [sizeR_none hd]; exact refN_bad1 B g bs a w most h hd
    | some x =>
      by_cases hneg : most < 0
      · rw [sizeR_no hd (.inl hneg)]; exact refN_bad2 B g bs a w most x.1 x.2 h hd hneg
      · obtain ⟨m, rfl⟩ := Int.eq_ofNat_of_zero_le (a := most) (by omega)
        by_cases hum : m < x.1
        · rw [sizeR_no hd (.inr (by omega))]; exact refN_bad3 B g bs a w m x.1 x.2 h hd hm2 hum
        · rw [sizeR_ok hd (by omega)]; exact refN_ok B g bs a w m x.1 x.2 h hd hm2 (by omega)
  · rw [if_neg he]
    exact refN_off B g bs a e w most h he

end Go.Proofs.YtpopbkcbplmcaaaGreat
namespace Go.Proofs.YtpopbkcbplmcaaaGreat
set_option linter.unusedVariables false
set_option linter.unusedSimpArgs false
open Go.RowKit

set_option maxRecDepth 100000 in
set_option maxHeartbeats 800000 in
theorem refU_bad (B g : Nat) (bs : List UInt8) (a : Nat) (w : World)  (h : RS w B g bs a 0) (hd : dec 0 0 (bs.drop a) = none) :
    Calls Tryz.prog 72 #[.pointer (some ⟨g, 0, none⟩)] w (RSRet (.int .u64 0) w B g bs a 20) := by
  obtain ⟨A, c, ⟨c0, c1, c2⟩, hf, h1, h2, h3, h4, hr, hB⟩ := h.parts
  have HN := hide (refnum_cut hr h1 h2 h3 hB hd)
  simp only [numW] at HN
  have H := hide h
  have HA := hide hr
  clear h hr hd
  by_cases hca : c = a
  · have HN1 := HN.out
    rw [if_pos hca, hca, Nat.sub_self] at HN1
    have HN2 := hide HN1
    clear HN HN1
    go_enter Tryz.func72, Tryz.ntmps72
    go_wp2_with (fail)
    go_region_with (go_at_call 45; refine (HN2.out w.drew rfl).mono ?_; rintro en w1 ⟨rfl, hfr⟩; have HF : Hid (Fr No w w1) := ⟨hfr.os, hfr.tape, hfr.output, hfr.size, hfr.block⟩; clear hfr; have HR1 := hide (H.out.fr0 HF.out); obtain ⟨A1, k1, ⟨e0, e1, e2⟩, hf1, q1, q2, _, _, _⟩ := HR1.out.parts)
    all_goals (try go_wp2)
    all_goals go_ret
    all_goals exact ⟨rfl, HR1.out.set2 20, (HF.out.any (Is g)).put _ _⟩
  · have HN1 := HN.out
    rw [if_neg hca] at HN1
    have HN2 := hide HN1
    clear HN HN1
    go_enter Tryz.func72, Tryz.ntmps72
    go_wp2_with (fail)
    go_region_with (go_at_call 45; refine (HN2.out w.drew rfl).mono ?_; rintro en w1 ⟨rfl, hfr⟩; have HF : Hid (Fr No w w1) := ⟨hfr.os, hfr.tape, hfr.output, hfr.size, hfr.block⟩; clear hfr; have HR1 := hide (H.out.fr0 HF.out); obtain ⟨A1, k1, ⟨e0, e1, e2⟩, hf1, q1, q2, _, _, _⟩ := HR1.out.parts)
    all_goals (try go_wp2)
    all_goals go_ret
    all_goals exact ⟨rfl, HR1.out.set2 20, (HF.out.any (Is g)).put _ _⟩

set_option maxRecDepth 100000 in
set_option maxHeartbeats 800000 in
theorem refU_ok (B g : Nat) (bs : List UInt8) (a : Nat) (w : World) (u k : Nat) (h : RS w B g bs a 0) (hd : dec 0 0 (bs.drop a) = some (u, k)) :
    Calls Tryz.prog 72 #[.pointer (some ⟨g, 0, none⟩)] w (RSRet (.int .u64 u) w B g bs (a + k) 0) := by
  obtain ⟨A, c, ⟨c0, c1, c2⟩, hf, h1, h2, h3, h4, hr, hB⟩ := h.parts
  have HN := hide (refnum_cut hr h1 h2 h3 hB hd)
  simp only [numW] at HN
  have H := hide h
  have HA := hide hr
  have hk := dec_le _ _ _ _ _ hd
  have hk1 : a + k ≤ bs.length := by have := hk.2; simp at this; omega
  have hk0 : ((k : Int) == 0) = false := by have := hk.1; simp; omega
  have hu := dec_lt _ 0 0 u k (by decide) hd
  clear hk
  clear h hr hd
  by_cases hca : c = a
  · have HN1 := HN.out
    rw [if_pos hca, hca, Nat.sub_self] at HN1
    have HN2 := hide HN1
    clear HN HN1
    go_enter Tryz.func72, Tryz.ntmps72
    go_wp2_with (fail)
    go_region_with (go_at_call 45; refine (HN2.out w.drew rfl).mono ?_; rintro en w1 ⟨rfl, hfr⟩; have HF : Hid (Fr No w w1) := ⟨hfr.os, hfr.tape, hfr.output, hfr.size, hfr.block⟩; clear hfr; have HR1 := hide (H.out.fr0 HF.out); obtain ⟨A1, k1, ⟨e0, e1, e2⟩, hf1, q1, q2, _, _, _⟩ := HR1.out.parts)
    all_goals (try go_wp2)
    all_goals go_ret
    all_goals exact ⟨by rfl, HR1.out.set1 _ hk1, (HF.out.any (Is g)).put _ _⟩
  · have HN1 := HN.out
    rw [if_neg hca] at HN1
    have HN2 := hide HN1
    clear HN HN1
    go_enter Tryz.func72, Tryz.ntmps72
    go_wp2_with (fail)
    go_region_with (go_at_call 45; refine (HN2.out w.drew rfl).mono ?_; rintro en w1 ⟨rfl, hfr⟩; have HF : Hid (Fr No w w1) := ⟨hfr.os, hfr.tape, hfr.output, hfr.size, hfr.block⟩; clear hfr; have HR1 := hide (H.out.fr0 HF.out); obtain ⟨A1, k1, ⟨e0, e1, e2⟩, hf1, q1, q2, _, _, _⟩ := HR1.out.parts)
    all_goals (try go_wp2)
    all_goals go_ret
    all_goals exact ⟨by rfl, HR1.out.set1 _ hk1, (HF.out.any (Is g)).put _ _⟩

set_option maxRecDepth 100000 in
set_option maxHeartbeats 800000 in
theorem refU_off (B g : Nat) (bs : List UInt8) (a : Nat) (e : Int) (w : World)  (h : RS w B g bs a e) (he : e ≠ 0) :
    Calls Tryz.prog 72 #[.pointer (some ⟨g, 0, none⟩)] w (RSRet (.int .u64 0) w B g bs a e) := by
  obtain ⟨A, c, ⟨c0, c1, c2⟩, hf, h1, h2, h3, h4, hr, hB⟩ := h.parts
  have hb : (e != 0) = true := by simpa using he
  have H := hide h
  clear h hr he
  go_enter Tryz.func72, Tryz.ntmps72
  go_wp2_with (fail)
  go_ret
  exact ⟨rfl, H.out, Fr.refl _ _⟩

set_option maxRecDepth 100000 in
set_option maxHeartbeats 800000 in
theorem refU_nil (w : World)  :
    Calls Tryz.prog 72 #[.pointer none] w (Ret (.int .u64 0) w) := by
  go_enter Tryz.func72, Tryz.ntmps72
  go_wp2_with (fail)
  go_ret
  exact ⟨rfl, rfl⟩

theorem refU_any (B g : Nat) (bs : List UInt8) (a : Nat) (e : Int) (w : World) (h : RS w B g bs a e) :
    Calls Tryz.prog 72 #[.pointer (some ⟨g, 0, none⟩)] w (RSRet (.int .u64 (uintR bs a e).1) w B g bs (uintR bs a e).2.1 (uintR bs a e).2.2) := by
  unfold uintR
  by_cases he : e = 0
  · subst he
    rw [if_pos rfl]
    cases hd : dec 0 0 (bs.drop a) with
    | none => exact refU_bad B g bs a w h hd
    | some x => exact refU_ok B g bs a w x.1 x.2 h hd
  · rw [if_neg he]
    exact refU_off B g bs a e w h he

set_option maxRecDepth 100000 in
set_option maxHeartbeats 800000 in
theorem back_any (u : Nat) (w : World) (hu : u < 18446744073709551616) :
    Calls Tryz.prog 73 #[.int .u64 u] w (Ret (.int .i64 (unzz u)) w) := by
  by_cases h0 : u % 2 = 0
  · have HU := hide (show unzz u = ((u / 2 : Nat) : Int) from if_pos h0)
    have hb : (((u : Int) % 2) == 0) = true := by simp; omega
    clear h0
    go_enter Tryz.func73, Tryz.ntmps73
    go_wp2
    go_ret
    exact ⟨by rw [HU.out]; simp [wrap64], rfl⟩
  · have HU := hide (show unzz u = -((u / 2 : Nat) : Int) - 1 from if_neg h0)
    have hb : (((u : Int) % 2) == 0) = false := by simp; omega
    clear h0
    go_enter Tryz.func73, Tryz.ntmps73
    go_wp2
    go_ret
    exact ⟨by rw [HU.out]; simp [wrap64], rfl⟩

set_option maxRecDepth 100000 in
set_option maxHeartbeats 800000 in
theorem refI_any (B g : Nat) (bs : List UInt8) (a : Nat) (e : Int) (w : World) (h : RS w B g bs a e) :
    Calls Tryz.prog 46 #[.pointer (some ⟨g, 0, none⟩)] w (RSRet (.int .i64 (unzz (uintR bs a e).1)) w B g bs (uintR bs a e).2.1 (uintR bs a e).2.2) := by
  have H := hide (refU_any B g bs a e w h)
  have HX := hide (fun W => back_any _ W (uintR_lt bs a e))
  clear h
  generalize uintR bs a e = x at H HX
  go_enter Tryz.func46, Tryz.ntmps46
  go_wp2_with (first | (go_at_call 72; refine H.out.mono ?_; rintro en w' ⟨rfl, hq⟩; have HQ := hide hq; clear hq) | (go_at_call 73; refine (HX.out _).mono ?_; rintro en w2 ⟨rfl, rfl⟩))
  go_ret
  exact ⟨rfl, HQ.out⟩

set_option maxRecDepth 100000 in
set_option maxHeartbeats 800000 in
theorem refI_nil (w : World) :
    Calls Tryz.prog 46 #[.pointer none] w (Ret (.int .i64 0) w) := by
  have HX := hide (back_any 0 w (by omega))
  go_enter Tryz.func46, Tryz.ntmps46
  go_wp2_with (first | (go_at_call 72; refine (refU_nil _).mono ?_; rintro en w' ⟨rfl, rfl⟩) | (go_at_call 73; refine HX.out.mono ?_; rintro en w2 ⟨rfl, rfl⟩))
  go_ret
  exact ⟨rfl, rfl⟩

end Go.Proofs.YtpopbkcbplmcaaaGreat
namespace Go.Proofs.YtpopbkcbplmcaaaGreat
set_option linter.unusedVariables false
set_option linter.unusedSimpArgs false
open Go.RowKit

theorem RS.blkB {w : World} {B g : Nat} {bs : List UInt8} {a : Nat} {e : Int} (h : RS w B g bs a e) : ∃ cs fz, w.heap[g]? = some (.cells cs 66 fz) := by
  obtain ⟨A, c, hh, _⟩ := h
  exact ⟨_, _, hh⟩
/-- points that are read. -/
structure RLf (w0 W : World) (B g : Nat) (bs : List UInt8) (b : Nat) (e : Int) (v : Value) (ps : List PoL) : Prop where
  rs : RS W B g bs b e
  fr : Fr (Is g) w0 W
  own : Own W w0.heap.size 86 2 v ps.length (pFlat ps)
  pts : ∀ q ∈ ps, PtN W (InT W w0.heap.size W.heap.size) q
  hg : g < w0.heap.size
  hB : B ≤ w0.heap.size
section
variable {w0 W W' : World} {B g b : Nat} {bs : List UInt8} {e : Int} {v : Value} {ps : List PoL}
theorem RLf.fr0 (h : RLf w0 W B g bs b e v ps) (f : Fr No W W') : RLf w0 W' B g bs b e v ps :=
  ⟨h.rs.fr0 f, h.fr.trans f (fun _ _ h => h.elim), h.own.fr0 f, fun q hq => ((h.pts q hq).fr0 f).up f.size, h.hg, h.hB⟩
theorem RLf.read {b' : Nat} {e' : Int} (h : RLf w0 W B g bs b e v ps) (f : Fr (Is g) W W') (hr : RS W' B g bs b' e') : RLf w0 W' B g bs b' e' v ps := by
  obtain ⟨cs, fz, hh⟩ := h.rs.blkB
  exact ⟨hr, h.fr.trans f (fun _ _ h => h), h.own.off f (off_is hh (by decide)), fun q hq => ((h.pts q hq).off f (off_is hh (by decide))).up f.size, h.hg, h.hB⟩
end
/-- a point that is being read. -/
structure RPu (w0 W : World) (B g gp : Nat) (bs : List UInt8) (b : Nat) (e : Int) (v : Value) (ps : List PoL) (d : Int) (va : Value) (xs : List Int) : Prop where
  lf : RLf w0 W B g bs b e v ps
  p : W.heap[gp]? = some (.cells #[.int .i64 d, va] 86 (0, 0))
  hp : w0.heap.size ≤ gp
  np : v.ownBlock ≠ some gp
  own : Own W gp 2 1 va xs.length (iz .i64 xs)
  pts : ∀ q ∈ ps, PtN W (InT W w0.heap.size gp) q
section
variable {w0 W W' : World} {B g gp b : Nat} {bs : List UInt8} {e d : Int} {v va : Value} {ps : List PoL} {xs : List Int}
theorem RPu.fr0 (h : RPu w0 W B g gp bs b e v ps d va xs) (f : Fr No W W') : RPu w0 W' B g gp bs b e v ps d va xs :=
  ⟨h.lf.fr0 f, f.blk h.p (fun h => h), h.hp, h.np, h.own.fr0 f, fun q hq => (h.pts q hq).fr0 f⟩
theorem RPu.read {b' : Nat} {e' : Int} (h : RPu w0 W B g gp bs b e v ps d va xs) (f : Fr (Is g) W W') (hr : RS W' B g bs b' e') : RPu w0 W' B g gp bs b' e' v ps d va xs := by
  obtain ⟨cs, fz, hh⟩ := h.lf.rs.blkB
  exact ⟨h.lf.read f hr, f.blk h.p (fun e => by have e : gp = g := e; have := h.lf.hg; have := h.hp; omega), h.hp, h.np, h.own.off f (off_is hh (by decide)), fun q hq => (h.pts q hq).off f (off_is hh (by decide))⟩
/-- a number more. -/
theorem RPu.add {x : Int} {v' : Value} (h : RPu w0 W B g gp bs b e v ps d va xs) (f : Fr (fun k => va.ownBlock = some k) W W') (o : Own W' gp 2 1 v' (xs.length + 1) (iz .i64 xs ++ [.int .i64 x])) :
    RPu w0 (W'.setCell ⟨gp, 1, none⟩ v') B g gp bs b e v ps d v' (xs ++ [x]) := by
  have ov : ∀ t, t ≠ 2 → Off (fun k => va.ownBlock = some k) W t := fun t ht => off_own h.own ht
  have hp' : W'.heap[gp]? = some (.cells #[.int .i64 d, va] 86 (0, 0)) := f.blk h.p (fun e => ov _ (by decide) _ _ _ h.p e)
  have f2 : Fr (Is gp) W' (W'.setCell ⟨gp, 1, none⟩ v') := (Fr.refl (Is gp) W').setCell (p := ⟨gp, 1, none⟩) (fun _ => rfl) v'
  have o2 : ∀ t, t ≠ 86 → Off (Is gp) W' t := fun t ht => off_is hp' ht
  have hlt : ∀ k, va.ownBlock = some k → gp ≤ k := fun k hk => (h.own.lt k hk).1
  have hgp := h.hp
  have hg := h.lf.hg
  have hB := h.lf.hB
  have r1 : RS W' B g bs b e := h.lf.rs.fr f (fun e => by have := hlt g e; omega) (fun k hk e => by have := hlt k e; omega)
  have r2 : RS (W'.setCell ⟨gp, 1, none⟩ v') B g bs b e := r1.fr f2 (fun e => by have e : g = gp := e; omega) (fun k hk e => by have e : k = gp := e; omega)
  have f01 : Fr (Is g) w0 W' := h.lf.fr.own f (fun k hk => .inl (by have := hlt k hk; omega))
  refine ⟨⟨r2, f01.trans f2 (fun i hi e => by have e : i = gp := e; omega), ?_, ?_, hg, hB⟩, ?_, h.hp, h.np, ?_, ?_⟩
  · exact (h.lf.own.off f (ov _ (by decide))).fr f2 (fun k hk e => by have e : k = gp := e; rw [e] at hk; exact h.np hk)
  · intro q hq
    exact ((((h.pts q hq).above f hlt).off f2 (o2 _ (by decide)))).up (by
      have h1 := (Array.getElem?_eq_some_iff.1 h.p).1
      have := f.size; have := f2.size; omega)
  · simp [World.setCell, Array.getElem?_modify, hp', Array.set!]
  · have := o.off f2 (o2 _ (by decide))
    rw [List.length_append, List.length_singleton]
    simpa [iz] using this
  · intro q hq
    exact ((h.pts q hq).above f hlt).off f2 (o2 _ (by decide))
/-- the point is laid behind the others. -/
theorem RPu.done {v' : Value} {A : Option Addr} {n c : Nat} (h : RPu w0 W B g gp bs b e v ps d (.slice A n c) xs) (hn : xs.length = n) (f : Fr (fun k => v.ownBlock = some k) W W') (o : Own W' w0.heap.size 86 2 v' (ps.length + 1) (pFlat ps ++ [.int .i64 d, .slice A n c])) :
    RLf w0 W' B g bs b e v' (ps ++ [((d, xs), A, c)]) := by
  have hg := h.lf.hg
  have hB := h.lf.hB
  have hlt : ∀ k, v.ownBlock = some k → w0.heap.size ≤ k := fun k hk => (h.lf.own.lt k hk).1
  have ov : ∀ t, t ≠ 86 → Off (fun k => v.ownBlock = some k) W t := fun t ht => off_own h.lf.own ht
  refine ⟨h.lf.rs.fr f (fun e => by have := hlt g e; omega) (fun k hk e => by have := hlt k e; omega), h.lf.fr.own f (fun k hk => .inl (hlt k hk)), ?_, ?_, hg, hB⟩
  · rw [List.length_append, List.length_singleton, pFlat_snoc]
    subst hn
    exact o
  · intro q hq
    rcases List.mem_append.1 hq with hq | hq
    · exact ((h.lf.pts q hq).off f (ov _ (by decide))).up f.size
    · rw [List.mem_singleton.1 hq]
      have ho := h.own
      rw [hn] at ho
      exact (((PtN.own (p := (d, xs)) ho h.hp).off f (ov _ (by decide)))).up f.size
end
/-- points that are told, and how the reader is left. -/
def PtsQ (w : World) (B g : Nat) (bs : List UInt8) (r : List Pt × Nat × Int) (en : Ending) (w' : World) : Prop := ∃ v ps, en = .returned v ∧ ps.map (·.1) = r.1 ∧ RLf w w' B g bs r.2.1 r.2.2 v ps
theorem ptsW_off {bs : List UInt8} {dims : Nat} : ∀ {k a : Nat} {e : Int}, (ptsW bs dims k a e).2.2 ≠ 0 → ∀ j, ptsW bs dims (k + j) a e = ptsW bs dims k a e
  | k, a, e, h, 0 => rfl
  | k, a, e, h, j + 1 => by rw [← Nat.add_assoc, ptsW, ptsW_off h j, if_neg h]
end Go.Proofs.YtpopbkcbplmcaaaGreat
namespace Go.Proofs.YtpopbkcbplmcaaaGreat
set_option linter.unusedVariables false
set_option linter.unusedSimpArgs false
open Go.RowKit

set_option maxRecDepth 100000 in
set_option maxHeartbeats 2000000 in
theorem rpts_bad (B g dims dp a : Nat) (bs : List UInt8) (e : Int) (w : World) (h : RS w B g bs a e) (hB : B ≤ w.heap.size) (hbad : (sizeS bs a e 1).2.2 ≠ 0 ∨ 40 < dp) (hdp : dp ≤ 41) :
    Calls Tryz.prog 28 #[.pointer (some ⟨g, 0, none⟩), .int .i64 (dims : Nat), .int .i64 (dp : Nat)] w (PtsQ w B g bs ([], (sizeS bs a e 1).2.1, 20)) := by
  have HSz := hide (refN_any B g bs a e 1 w h (by decide))
  obtain ⟨⟨kd, a1, e1⟩, hs⟩ : ∃ x, x = sizeS bs a e 1 := ⟨_, rfl⟩
  rw [← hs] at HSz hbad ⊢
  dsimp only at HSz hbad ⊢
  have hg := h.lt
  have HGB := hide (And.intro hg hB)
  clear hs h hg hB
  go_enter Tryz.func28, Tryz.ntmps28
  go_wp2_with (fail)
  refine HSz.out.mono ?_
  rintro en w1 ⟨rfl, hrs, hf⟩
  obtain ⟨A, c, ⟨c0, c1, c2⟩, hz, _⟩ := hrs.parts
  have hz2 := hz 2
  have HR2 := hide (hrs.set2 20)
  have HF2 := hide (hf.setCell (p := ⟨g, 2, none⟩) (fun _ => rfl) (.int .i64 20))
  clear hrs hf hz c0 c1 HSz
  by_cases he : e1 = 0
  · subst he
    have hdp2 : 40 < dp := hbad.resolve_left (fun f => f rfl)
    clear hbad
    go_wp2_with (fail)
    go_ret
    exact ⟨_, [], rfl, rfl, HR2.out, HF2.out, Own.nil _ _ _ _, (fun q hq => by cases hq), HGB.out.1, HGB.out.2⟩
  · have d1 : (e1 != 0) = true := by simpa using he
    clear hbad he
    go_wp2_with (fail)
    go_ret
    exact ⟨_, [], rfl, rfl, HR2.out, HF2.out, Own.nil _ _ _ _, (fun q hq => by cases hq), HGB.out.1, HGB.out.2⟩
set_option maxRecDepth 100000 in
set_option maxHeartbeats 8000000 in
theorem rpts_leaf (B g dims dp a : Nat) (bs : List UInt8) (e : Int) (w : World) (h : RS w B g bs a e) (hB : B ≤ w.heap.size) (h0 : (sizeS bs a e 1).2.2 = 0) (h1 : (sizeS bs a e 1).1 ≠ 1) (hdp : dp ≤ 40) (hdm : dims ≤ 4) :
    Calls Tryz.prog 28 #[.pointer (some ⟨g, 0, none⟩), .int .i64 (dims : Nat), .int .i64 (dp : Nat)] w (PtsQ w B g bs (leafW bs dims (sizeS bs a e 1).2.1)) := by
  have HSz := hide (refN_any B g bs a e 1 w h (by decide))
  obtain ⟨⟨kd, a1, e1⟩, hs⟩ : ∃ x, x = sizeS bs a e 1 := ⟨_, rfl⟩
  rw [← hs] at HSz h0 h1 ⊢
  dsimp only at HSz h0 h1 ⊢
  subst h0
  have hg := h.lt
  have HGB := hide (And.intro hg hB)
  obtain ⟨⟨n, a2, e2⟩, hs2⟩ : ∃ x, x = sizeS bs a1 0 8 := ⟨_, rfl⟩
  have hn8 : n ≤ 8 := by
    have := sizeS_le (bs := bs) (a := a1) (e := 0) (most := 8) (by decide)
    rw [← hs2] at this
    omega
  obtain ⟨R, hR⟩ : ∃ R, R = leafW bs dims a1 := ⟨_, rfl⟩
  rw [← hR]
  have hRw : R = ptsW bs dims n a2 e2 := by rw [hR]; unfold leafW; rw [← hs2]
  have HRw := hide hRw
  have HS2 := hide hs2
  have bk : ((kd : Int) == 1) = false := by simpa using (by omega : ¬ (kd : Int) = 1)
  clear hs h hg hB hR hRw hs2 h1
  go_enter Tryz.func28, Tryz.ntmps28
  go_wp2_with (fail)
  refine HSz.out.mono ?_
  rintro en w1 ⟨rfl, hrs, hf⟩
  have HSn := hide (refN_any B g bs a1 0 8 w1 hrs (by decide))
  rw [← HS2.out] at HSn
  obtain ⟨A, c, ⟨c0, c1, c2⟩, _⟩ := hrs.parts
  have HF1 := hide hf
  clear hrs hf c0 c1 HSz
  go_wp2_with (fail)
  clear c2 bk
  refine HSn.out.mono ?_
  rintro en w2 ⟨rfl, hrs, hf⟩
  have HL0 : Hid (RLf w w2 B g bs a2 e2 (.slice none 0 0) []) := hide ⟨hrs, HF1.out.trans hf (fun _ _ h => h), Own.nil _ _ _ _, (fun q hq => by cases hq), HGB.out.1, HGB.out.2⟩
  clear hrs hf HSn HF1
  obtain ⟨ip, hip, hipz, hipsz, hipby⟩ := info_parts Tryz.infoRP
  obtain ⟨i8, hi8, hz8, hsz8, hby8⟩ := info_parts Tryz.infoI8
  go_upto_region 16 with (fail)
  go_loopg [10, 11, 12, 13, 14] n (fun gk v i s12 s13 s14 wr => ∃ (k b : Nat) (e' : Int) (ps : List PoL), k + gk = n ∧ i = .int .i64 (k : Nat) ∧ Hid (ptsW bs dims k a2 e2 = (ps.map (·.1), b, e')) ∧ Hid (ps.length ≤ k) ∧ Hid (RLf w wr B g bs b e' v ps))
  case atStart => exact ⟨0, a2, e2, [], by omega, rfl, hide rfl, hide (Nat.le_refl _), HL0⟩
  case round =>
    clear HL0
    obtain ⟨k, b, e', ps, hk, rfl, HPs, HPl, HLf⟩ := hrel
    obtain ⟨wo, rfl⟩ : ∃ wo : World, wo = wr := ⟨_, rfl⟩
    obtain ⟨A, c, ⟨_, _, c2⟩, _⟩ := HLf.out.rs.parts
    by_cases hlk : k < n
    case neg =>
      obtain rfl : k = n := by omega
      have HE := hide (show PtsQ w B g bs R (.returned u10) wo from ⟨_, ps, rfl, by rw [HRw.out, HPs.out], by rw [HRw.out, HPs.out]; exact HLf.out⟩)
      clear hk hlk HLf HPs HRw
      go_wp2_with (fail)
      go_ret
      exact HE.out
    by_cases he : e' = 0
    case neg =>
      have d1 : (e' == 0) = false := by simpa using he
      have hend : ptsW bs dims n a2 e2 = (ps.map (·.1), b, e') := by
        have := ptsW_off (bs := bs) (dims := dims) (k := k) (a := a2) (e := e2) (by rw [HPs.out]; exact he) (n - k)
        rw [show k + (n - k) = n by omega] at this
        rw [this, HPs.out]
      have HE := hide (show PtsQ w B g bs R (.returned u10) wo from ⟨_, ps, rfl, by rw [HRw.out, hend], by rw [HRw.out, hend]; exact HLf.out⟩)
      clear hk he hend HLf HPs HRw
      go_wp2_with (fail)
      go_ret
      exact HE.out
    subst he
    have d1 : ((0 : Int) == 0) = true := by decide
    obtain ⟨g', rfl⟩ : ∃ g', gk = g' + 1 := ⟨gk - 1, by omega⟩
    have HK := hide hk
    obtain ⟨⟨d, b1, e1'⟩, hd⟩ : ∃ x, x = sizeS bs b 0 16383 := ⟨_, rfl⟩
    have HSd0 := refN_any B g bs b 0 16383 wo HLf.out.rs (by decide)
    rw [← hd] at HSd0
    dsimp only at HSd0
    have HSd := hide HSd0
    have HD := hide hd
    clear hd HSd0 hk
    go_upto_region 19 with (go_at_call 27; refine HSd.out.mono ?_; rintro en w4 ⟨rfl, hrs, hf⟩; have HL4 := hide (HLf.out.read hf hrs); clear hrs hf)
    clear c2 d1 HSd HLf
    obtain ⟨gp, hgp⟩ : ∃ gp, gp = w4.heap.size := ⟨_, rfl⟩
    obtain ⟨w5, hw5⟩ : ∃ w5, w5 = w4.alloc (.cells #[.int .i64 (d : Nat), .slice none 0 0] 86) := ⟨_, rfl⟩
    rw [← hw5, ← hgp]
    have HPu0 : Hid (RPu w w5 B g gp bs b1 e1' u10 ps (d : Nat) (.slice none 0 0) []) := by
      have fA : Fr No w4 w5 := by rw [hw5]; exact (Fr.refl No w4).alloc _
      refine hide ⟨HL4.out.fr0 fA, by rw [hw5, hgp]; exact heap_alloc_new w4 _, ?_, ?_, Own.nil _ _ _ _, fun q hq => ?_⟩
      · rw [hgp]; exact HL4.out.fr.size
      · intro e; have := (HL4.out.own.lt gp e).2; omega
      · rw [hgp]; exact (HL4.out.pts q hq).fr0 fA
    clear hgp hw5 HL4
    go_wp2_with (fail)
    go_loopg [13, 14] dims (fun g2 i s14 wx => ∃ (j b' : Nat) (e'' : Int) (xs : List Int) (va : Value), j + g2 = dims ∧ i = .int .i64 (j : Nat) ∧ Hid (xs.length = j) ∧ Hid (intsR bs j b1 e1' = (xs, b', e'')) ∧ Hid (RPu w wx B g gp bs b' e'' u10 ps (d : Nat) va xs))
    case atStart => exact ⟨0, b1, e1', [], .slice none 0 0, by omega, by go_num, hide rfl, hide rfl, HPu0⟩
    case round =>
      clear HPu0
      obtain ⟨j, b', e'', xs, va, hj, rfl, HXl, HIs, HPu⟩ := hrel
      obtain ⟨wi, rfl⟩ : ∃ wo : World, wo = wr := ⟨_, rfl⟩
      by_cases hlj : j < dims
      · obtain ⟨⟨uu, b2, e3⟩, hu⟩ : ∃ x, x = uintR bs b' e'' := ⟨_, rfl⟩
        have HIn0 := refI_any B g bs b' e'' wi HPu.out.lf.rs
        rw [← hu] at HIn0
        dsimp only at HIn0
        have HIn := hide HIn0
        have HU := hide hu
        obtain ⟨g3, rfl⟩ : ∃ g', gk = g' + 1 := ⟨gk - 1, by omega⟩
        have HJ := hide hj
        have bb1 : (j + 1) * 8 ≤ 140737488355328 := by omega
        have bb2 : j + 1 ≤ maxLen := by unfold maxLen; omega
        clear hu hj HIn0
        go_upto_region 23 with (go_at_call 46; refine HIn.out.mono ?_; rintro en w6 ⟨rfl, hrs, hf⟩; have HP6 := hide (HPu.out.read hf hrs); clear hrs hf)
        clear HIn HPu
        have HP7 := hide (HP6.out.fr0 ((Fr.refl No w6).alloc (.cells #[.int .i64 (unzz uu)] 2)))
        have ho6 := HP6.out.own
        rw [HXl.out] at ho6
        obtain ⟨Av6, cv6, rfl, q1, q2, _⟩ := ho6.form
        have k6 : w6.cell? ⟨gp, 1, none⟩ = some (.slice Av6 j cv6) := cell_of_row _ _ 1 _ _ _ HP6.out.p
        have HO7 : Hid (Own (w6.alloc (.cells #[.int .i64 (unzz uu)] 2)) gp 2 1 (.slice Av6 j cv6) j (iz .i64 xs)) := hide (by have := HP7.out.own; rw [HXl.out] at this; exact this)
        have HS7 := hide (Src.one (P := Tryz.prog) w6 (e := 2) Tryz.underlying24 (.int .i64 (unzz uu)) rfl)
        have hgpz : gp ≤ (w6.alloc (.cells #[.int .i64 (unzz uu)] 2)).heap.size := by
          have := (Array.getElem?_eq_some_iff.1 HP7.out.p).1
          omega
        unfold maxLen at q2
        clear ho6
        go_wp2_with (at_builtin; refine wpList_append_gen _ rfl (.tmp 84) (.tmp 86) 24 24 rfl gp 2 i8 (.int .i64 0) 1 8 Tryz.underlying24 hi8 hz8 hsz8 hby8 rfl _ j _ rfl HO7.out _ 1 [.int .i64 (unzz uu)] rfl HS7.out bb1 bb2 hgpz ?_; intro v8 w8 o8 f8 hat; have HP8 : Hid (RPu w (w8.setCell ⟨gp, 1, none⟩ v8) B g gp bs b2 e3 u10 ps (d : Nat) v8 (xs ++ [unzz uu])) := hide (HP7.out.add f8 (by rw [HXl.out]; exact o8)); have hp8 := f8.blk HP7.out.p (fun h => HO7.out.ne_blk h HP7.out.p (by decide)); have k8 : w8.cell? ⟨gp, 1, none⟩ = some (.slice Av6 j cv6) := cell_of_row _ _ 1 _ _ _ hp8; have z8 : w8.frozen? ⟨gp, 1, none⟩ = false := frozen_of_row _ _ 1 _ _ hp8; obtain ⟨A8, c8, rfl, _⟩ := o8.form; clear o8 f8 hat hp8)
        go_roundg g3
        case measure => omega
        case rel => exact ⟨j + 1, b2, e3, _, _, by have := HJ.out; omega, by go_num, hide (by rw [List.length_append, HXl.out]; rfl), hide (by rw [unzz_add HIs.out, ← HU.out]), HP8⟩
      · obtain rfl : j = dims := by omega
        have hpt : ptR bs j b = (((d : Int), xs), b', e'') := by unfold ptR; rw [← HD.out]; dsimp only; rw [HIs.out]
        have HPs' : Hid (ptsW bs j (k + 1) a2 e2 = (ps.map (·.1) ++ [((d : Int), xs)], b', e'')) := hide (by
          rw [ptsW, HPs.out]
          dsimp only
          rw [if_pos rfl, hpt])
        have ho := HPu.out.own
        rw [HXl.out] at ho
        obtain ⟨Aa, ca, rfl, q1, q2, _⟩ := ho.form
        have fa : Fr No wi (wi.alloc (.cells #[.int .i64 (d : Nat), .slice Aa j ca] 86)) := (Fr.refl No wi).alloc _
        have HPa := hide (HPu.out.fr0 fa)
        have kp0 : wi.cell? ⟨gp, 0, none⟩ = some (.int .i64 (d : Nat)) := cell_of_row _ _ 0 _ _ _ HPu.out.p
        have kp1 : wi.cell? ⟨gp, 1, none⟩ = some (.slice Aa j ca) := cell_of_row _ _ 1 _ _ _ HPu.out.p
        obtain ⟨pl, hpl⟩ : ∃ x, x = ps.length := ⟨_, rfl⟩
        have hplk : pl ≤ k := by rw [hpl]; exact HPl.out
        obtain ⟨Al, cl, rfl, l1, l2, _⟩ := HPu.out.lf.own.form
        have HOa : Hid (Own (wi.alloc (.cells #[.int .i64 (d : Nat), .slice Aa j ca] 86)) w.heap.size 86 2 (.slice Al pl cl) pl (pFlat ps)) := hide (by rw [hpl]; exact HPa.out.lf.own)
        have HSa := hide (src_rp wi (d : Nat) Aa j ca)
        have bb1 : (pl + 1) * 32 ≤ 140737488355328 := by omega
        have bb2 : pl + 1 ≤ maxLen := by unfold maxLen; omega
        have bb3 : w.heap.size ≤ (wi.alloc (.cells #[.int .i64 (d : Nat), .slice Aa j ca] 86)).heap.size := HPa.out.lf.fr.size
        have HPl' := hide hpl
        have HQ := hide (And.intro q1 q2)
        rw [← hpl] at l1
        unfold maxLen at q2 l2
        rw [← hpl]
        clear hpt ho fa hpl hj hlj
        go_wp2_with (at_builtin; refine wpList_append_gen _ rfl (.tmp 89) (.tmp 91) 35 35 rfl w.heap.size 86 ip (.agg #[.int .i64 0, .slice none 0 0]) 2 32 Tryz.underlying35 hip hipz hipsz hipby rfl _ pl _ rfl HOa.out _ 1 [.int .i64 (d : Nat), .slice Aa j ca] rfl HSa.out bb1 bb2 bb3 ?_; intro v8 w8 o8 f8 hat; have HL8 : Hid (RLf w w8 B g bs b' e'' v8 (ps ++ [(((d : Int), xs), Aa, ca)])) := hide (HPa.out.done (n := j) (c := ca) (A := Aa) HXl.out (by rw [← HPl'.out]; exact f8) (by rw [← HPl'.out]; exact o8)); clear o8 f8 hat)
        go_roundg g'
        case measure => omega
        case rel => exact ⟨k + 1, b', e'', _, by have := HK.out; omega, by go_num, hide (by rw [HPs'.out, List.map_append]; rfl), hide (by rw [List.length_append, List.length_singleton]; have := HPl.out; omega), HL8⟩
end Go.Proofs.YtpopbkcbplmcaaaGreat
namespace Go.Proofs.YtpopbkcbplmcaaaGreat
set_option linter.unusedVariables false
set_option linter.unusedSimpArgs false
open Go.RowKit

section
variable {w wa w5 w6 w7 : World} {B g b b' : Nat} {bs : List UInt8} {e e' : Int} {v1 v2 v7 : Value} {ps1 ps2 : List PoL}
/-- what was read first stays while the reader goes on. -/
theorem RLf.next (h1 : RLf wa w5 B g bs b e v1 ps1) (f : Fr (Is g) w5 w6) : Own w6 wa.heap.size 86 2 v1 ps1.length (pFlat ps1) ∧ ∀ q ∈ ps1, PtN w6 (InT w6 wa.heap.size w6.heap.size) q := by
  obtain ⟨cs, fz, hh⟩ := h1.rs.blkB
  exact ⟨h1.own.off f (off_is hh (by decide)), fun q hq => ((h1.pts q hq).off f (off_is hh (by decide))).up f.size⟩
theorem RLf.join (h1 : RLf wa w5 B g bs b e v1 ps1) (hwa : Fr (Is g) w wa) (hg : g < w.heap.size) (hB : B ≤ w.heap.size) (h2 : RLf w5 w6 B g bs b' e' v2 ps2) (f7 : Fr (fun k => v1.ownBlock = some k) w6 w7) (o7 : Own w7 wa.heap.size 86 2 v7 (ps1.length + ps2.length) (pFlat ps1 ++ pFlat ps2)) :
    RLf w w7 B g bs b' e' v7 (ps1 ++ ps2) := by
  obtain ⟨o1, p1⟩ := h1.next h2.fr
  have hz := hwa.size
  have hz5 := h1.fr.size
  have hz6 := h2.fr.size
  have hz7 := f7.size
  have ov : ∀ t, t ≠ 86 → Off (fun k => v1.ownBlock = some k) w6 t := fun t ht => off_own o1 ht
  have hlt : ∀ k, v1.ownBlock = some k → w.heap.size ≤ k := fun k hk => by have := (o1.lt k hk).1; omega
  refine ⟨h2.rs.fr f7 (fun e => by have := hlt g e; omega) (fun k hk e => by have := hlt k e; omega), (((hwa.trans h1.fr (fun _ _ h => h)).trans h2.fr (fun _ _ h => h)).own f7 (fun k hk => .inl (hlt k hk))), ?_, ?_, hg, hB⟩
  · have e : pFlat (ps1 ++ ps2) = pFlat ps1 ++ pFlat ps2 := by simp [pFlat, List.flatMap_append]
    rw [e, List.length_append]
    exact o7.lower hz
  · intro q hq
    rcases List.mem_append.1 hq with hq | hq
    · exact ((p1 q hq).off f7 (ov _ (by decide))).mono fun k hk => ⟨by have := hk.1; omega, by have := hk.2.1; omega, hk.2.2⟩
    · exact ((h2.pts q hq).off f7 (ov _ (by decide))).mono fun k hk => ⟨by have := hk.1; omega, by have := hk.2.1; omega, hk.2.2⟩
end
set_option maxRecDepth 100000 in
set_option maxHeartbeats 8000000 in
theorem rpts_cut (B g dims dp a f : Nat) (bs : List UInt8) (e : Int) (w : World) (h : RS w B g bs a e) (hB : B ≤ w.heap.size) (h0 : (sizeS bs a e 1).2.2 = 0) (h1 : (sizeS bs a e 1).1 = 1) (hdp : dp ≤ 40) (hbs : bs.length ≤ 1048576)
    (ih : ∀ (a : Nat) (e : Int) (w : World), RS w B g bs a e → B ≤ w.heap.size → Calls Tryz.prog 28 #[.pointer (some ⟨g, 0, none⟩), .int .i64 (dims : Nat), .int .i64 ((dp : Int) + 1)] w (PtsQ w B g bs (nodeW bs dims f a e))) :
    Calls Tryz.prog 28 #[.pointer (some ⟨g, 0, none⟩), .int .i64 (dims : Nat), .int .i64 (dp : Nat)] w (PtsQ w B g bs (nodeW bs dims (f + 1) a e)) := by
  have HSz := hide (refN_any B g bs a e 1 w h (by decide))
  have ha : a ≤ bs.length := by obtain ⟨_, _, _, _, _, _, h, _⟩ := h.parts; exact h
  obtain ⟨R, hR⟩ : ∃ R, R = nodeW bs dims (f + 1) a e := ⟨_, rfl⟩
  rw [← hR]
  rw [nodeW] at hR
  obtain ⟨⟨kd, a1, e1⟩, hs⟩ : ∃ x, x = sizeS bs a e 1 := ⟨_, rfl⟩
  have hgo := sizeS_go (bs := bs) (e := e) (most := 1) ha
  rw [← hs] at HSz h0 h1 hR hgo
  dsimp only at HSz h0 h1 hR hgo
  subst h0
  subst h1
  rw [if_neg (fun h => h rfl), if_pos rfl] at hR
  have hg := h.lt
  have HGB := hide (And.intro hg hB)
  obtain ⟨⟨x1, b1, e2⟩, hs1⟩ : ∃ x, x = sizeS bs a1 0 4 := ⟨_, rfl⟩
  obtain ⟨⟨x2, b2, e3⟩, hs2⟩ : ∃ x, x = uintR bs b1 e2 := ⟨_, rfl⟩
  obtain ⟨⟨x3, b3, e4⟩, hs3⟩ : ∃ x, x = sizeS bs b2 e3 (bs.length : Nat) := ⟨_, rfl⟩
  have hh : hdrW bs a1 = (b3, e4) := by
    unfold hdrW
    rw [← hs1]
    dsimp only
    rw [← hs2]
    dsimp only
    rw [← hs3]
  have hgh := hdrW_go (bs := bs) hgo.2.1
  rw [hh] at hR hgh
  dsimp only at hR hgh
  obtain ⟨⟨L, b4, e5⟩, hL⟩ : ∃ x, x = nodeW bs dims f b3 e4 := ⟨_, rfl⟩
  have hgL := nodeW_go (bs := bs) (dims := dims) f b3 e4 hgh.2
  rw [← hL] at hR hgL
  dsimp only at hR hgL
  obtain ⟨hgL1, hgL2, hgL3, _, _⟩ := hgL
  have hgR := nodeW_go (bs := bs) (dims := dims) f b4 0 hgL2
  have HS1 := hide hs1
  have HS2 := hide hs2
  have HS3 := hide hs3
  have HLe := hide hL
  have HR := hide hR
  have HIh := hide ih
  obtain ⟨ml, hml⟩ : ∃ m, m = bs.length := ⟨_, rfl⟩
  have HMl := hide hml
  have hgR3 := hgR.2.2.1
  have hLl : L.length ≤ 1048584 := by omega
  have hRl : (nodeW bs dims f b4 0).1.length ≤ 1048584 := by have := hgR.2.1; omega
  have HLl := hide hLl
  have HRl := hide hRl
  have bk : (((1 : Nat) : Int) == 1) = true := by decide
  clear hs h hg hB hR hs1 hs2 hs3 hh hgh hL hgL1 hgL2 hgL3 hgR hgR3 ih hgo ha hml hbs hLl hRl
  go_enter Tryz.func28, Tryz.ntmps28
  go_wp2_with (fail)
  refine HSz.out.mono ?_
  rintro en w1 ⟨rfl, hrs, hf⟩
  have HSn := hide (refN_any B g bs a1 0 4 w1 hrs (by decide))
  rw [← HS1.out] at HSn
  obtain ⟨A, c, ⟨_, _, c2⟩, _⟩ := hrs.parts
  have HF1 := hide hf
  clear hrs hf HSz
  go_wp2_with (fail)
  clear c2 bk
  refine HSn.out.mono ?_
  rintro en w2 ⟨rfl, hrs, hf⟩
  have HIn := hide (refI_any B g bs b1 e2 w2 hrs)
  rw [← HS2.out] at HIn
  have HF2 := hide (HF1.out.trans hf (fun _ _ h => h))
  clear hrs hf HSn HF1
  go_wp2_with (fail)
  refine HIn.out.mono ?_
  rintro en w3 ⟨rfl, hrs, hf⟩
  obtain ⟨A, c, ⟨c0, _, _⟩, _⟩ := hrs.parts
  rw [← HMl.out] at c0
  have hml63 : ((ml : Nat) : Int) ≤ 9223372036854775807 := by
    obtain ⟨_, _, _, _, q1, q2, _⟩ := hrs.parts
    rw [← HMl.out] at q1
    unfold maxLen at q2
    omega
  have HSq := hide (refN_any B g bs b2 e3 (ml : Nat) w3 hrs hml63)
  rw [HMl.out, ← HS3.out, ← HMl.out] at HSq
  have HF3 := hide (HF2.out.trans hf (fun _ _ h => h))
  clear hrs hf HIn HF2 hml63
  go_wp2_with (fail)
  refine HSq.out.mono ?_
  rintro en w4 ⟨rfl, hrs, hf⟩
  have HF4 := hide (HF3.out.trans hf (fun _ _ h => h))
  have HC1 := hide (HIh.out b3 e4 w4 hrs (Nat.le_trans HGB.out.2 HF4.out.size))
  rw [← HLe.out] at HC1
  clear hrs hf HSq HF3 c0
  go_wp2_with (fail)
  refine HC1.out.mono ?_
  rintro en w5 ⟨v5, ps1, rfl, hp1, hl1⟩
  dsimp only at hp1 hl1
  obtain ⟨A5, c5, rfl, x5a, x5b, _⟩ := hl1.own.form
  obtain ⟨A, c, ⟨_, _, c2⟩, _⟩ := hl1.rs.parts
  have HP1 := hide hp1
  have HL1 := hide hl1
  obtain ⟨n1, hn1⟩ : ∃ x, x = ps1.length := ⟨_, rfl⟩
  have HN1 := hide hn1
  rw [← hn1] at x5a ⊢
  have hn1b : n1 ≤ 1048584 := by rw [hn1, show ps1.length = L.length by rw [← hp1, List.length_map]]; exact HLl.out
  unfold maxLen at x5b
  clear hp1 hl1 hn1 HC1
  by_cases he : e5 = 0
  case neg =>
    have d1 : (e5 != 0) = true := by simpa using he
    have hRe : R = ([], b4, e5) := by rw [HR.out, if_pos he]
    have HE := hide (show PtsQ w B g bs R (.returned (.slice none 0 0)) w5 from ⟨_, [], rfl, by rw [hRe]; rfl, by rw [hRe]; exact ⟨HL1.out.rs, HF4.out.trans HL1.out.fr (fun _ _ h => h), Own.nil _ _ _ _, (fun q hq => by cases hq), HGB.out.1, HGB.out.2⟩⟩)
    clear he hRe HR HL1
    go_wp2_with (fail)
    go_ret
    exact HE.out
  subst he
  have d1 : ((0 : Int) != 0) = false := by decide
  have hRe : R = (L ++ (nodeW bs dims f b4 0).1, (nodeW bs dims f b4 0).2) := by rw [HR.out, if_neg (fun h => h rfl)]
  have HRe := hide hRe
  have HC2 := hide (HIh.out b4 0 w5 HL1.out.rs (Nat.le_trans HGB.out.2 (HF4.out.trans HL1.out.fr (fun _ _ h => h)).size))
  clear hRe HR
  go_wp2_with (fail)
  refine HC2.out.mono ?_
  rintro en w6 ⟨v6, ps2, rfl, hp2, hl2⟩
  obtain ⟨A6, c6, rfl, x6a, x6b, _, x6c, _⟩ := hl2.own.form
  have HP2 := hide hp2
  have HL2 := hide hl2
  obtain ⟨n2, hn2⟩ : ∃ x, x = ps2.length := ⟨_, rfl⟩
  have HN2 := hide hn2
  rw [← hn2] at x6a ⊢
  have hn2b : n2 ≤ 1048584 := by rw [hn2, show ps2.length = (nodeW bs dims f b4 0).1.length by rw [← hp2, List.length_map]]; exact HRl.out
  have HSr := hide (Src.ofRd (P := Tryz.prog) (size := 2) w6 Tryz.underlying35 A6 n2 c6 (pFlat ps2) (by rw [pFlat_len, hn2]) (by omega) x6c (pFlat_one ps2))
  have HO6 : Hid (Own w6 w4.heap.size 86 2 (.slice A5 n1 c5) n1 (pFlat ps1)) := hide (by have := (HL1.out.next hl2.fr).1; rw [← HN1.out] at this; exact this)
  obtain ⟨ip, hip, hipz, hipsz, hipby⟩ := info_parts Tryz.infoRP
  have bb1 : (n1 + n2) * 32 ≤ 140737488355328 := by omega
  have bb2 : n1 + n2 ≤ maxLen := by unfold maxLen; omega
  have bb3 : w4.heap.size ≤ w6.heap.size := (HL1.out.fr.trans hl2.fr (fun _ _ h => h)).size
  unfold maxLen at x6b
  clear hp2 hl2 x6c hn2 HC2 d1 c2
  go_wp2_with (at_builtin; refine wpList_append_gen _ rfl (.tmp 52) (.tmp 57) 35 35 rfl w4.heap.size 86 ip (.agg #[.int .i64 0, .slice none 0 0]) 2 32 Tryz.underlying35 hip hipz hipsz hipby rfl _ n1 _ rfl HO6.out _ n2 (pFlat ps2) rfl HSr.out bb1 bb2 bb3 ?_; intro v7 w7 o7 f7 hat; have HJ : Hid (RLf w w7 B g bs (nodeW bs dims f b4 0).2.1 (nodeW bs dims f b4 0).2.2 v7 (ps1 ++ ps2)) := hide (HL1.out.join HF4.out HGB.out.1 HGB.out.2 HL2.out (by rw [← HN1.out]; exact f7) (by rw [← HN1.out, ← HN2.out]; exact o7)); clear o7 f7 hat)
  go_ret
  exact ⟨_, ps1 ++ ps2, rfl, by rw [HRe.out, List.map_append, HP1.out, HP2.out], by rw [HRe.out]; exact HJ.out⟩
theorem rpts_any (B g dims : Nat) (bs : List UInt8) (hdm : dims ≤ 4) (hbs : bs.length ≤ 1048576) : ∀ (f dp a : Nat) (e : Int) (w : World), f + dp = 41 → RS w B g bs a e → B ≤ w.heap.size →
    Calls Tryz.prog 28 #[.pointer (some ⟨g, 0, none⟩), .int .i64 (dims : Nat), .int .i64 (dp : Nat)] w (PtsQ w B g bs (nodeW bs dims f a e)) := by
  intro f
  induction f with
  | zero =>
    intro dp a e w hf h hB
    rw [nodeW]
    exact rpts_bad B g dims dp a bs e w h hB (.inr (by omega)) (by omega)
  | succ f ih =>
    intro dp a e w hf h hB
    by_cases h0 : (sizeS bs a e 1).2.2 = 0
    · by_cases h1 : (sizeS bs a e 1).1 = 1
      · refine rpts_cut B g dims dp a f bs e w h hB h0 h1 (by omega) hbs fun a e w h hB => ?_
        have := ih (dp + 1) a e w (by omega) h hB
        rw [show (((dp + 1 : Nat)) : Int) = (dp : Int) + 1 by omega] at this
        exact this
      · rw [nodeW, if_neg (fun h => h h0), if_neg h1]
        exact rpts_leaf B g dims dp a bs e w h hB h0 h1 (by omega) hdm
    · rw [nodeW, if_pos h0]
      exact rpts_bad B g dims dp a bs e w h hB (.inl h0) (by omega)
end Go.Proofs.YtpopbkcbplmcaaaGreat
namespace Go.Proofs.YtpopbkcbplmcaaaGreat
set_option linter.unusedVariables false
set_option linter.unusedSimpArgs false
open Go.RowKit

theorem far_wrap {lo hi : Int} (h1 : -9223372036854775808 ≤ lo) (h2 : hi ≤ 9223372036854775807) (h3 : lo ≤ hi) : IntKind.u64.wrap (IntKind.u64.wrap hi - IntKind.u64.wrap lo) = (((hi - lo).toNat : Nat) : Int) := by
  simp only [IntKind.wrap, IntKind.bits, IntKind.signed]
  simp
  omega
theorem lowP_in {d : Nat} : ∀ {l : List Pt} {m : Int}, (∀ p ∈ l, InI p.2) → -9223372036854775808 ≤ m → -9223372036854775808 ≤ lowP d l m
  | [], m, _, h => h
  | p :: r, m, hp, h => by
    rw [lowP]
    refine lowP_in (fun q hq => hp q (List.mem_cons_of_mem _ hq)) ?_
    split
    · by_cases hd : d < p.2.length
      · have := hp p List.mem_cons_self (p.2.getD d 0) (by rw [List.getD, List.getElem?_eq_getElem hd]; exact List.getElem_mem hd)
        omega
      · rw [List.getD, List.getElem?_eq_none (by omega)]; simp
    · exact h
theorem highP_in {d : Nat} : ∀ {l : List Pt} {m : Int}, (∀ p ∈ l, InI p.2) → m ≤ 9223372036854775807 → highP d l m ≤ 9223372036854775807
  | [], m, _, h => h
  | p :: r, m, hp, h => by
    rw [highP]
    refine highP_in (fun q hq => hp q (List.mem_cons_of_mem _ hq)) ?_
    split
    · by_cases hd : d < p.2.length
      · have := hp p List.mem_cons_self (p.2.getD d 0) (by rw [List.getD, List.getElem?_eq_getElem hd]; exact List.getElem_mem hd)
        omega
      · rw [List.getD, List.getElem?_eq_none (by omega)]; simp
    · exact h
theorem wid_gt {l : List Pt} {d ff : Nat} (h : d = 0 ∧ ff = 0 ∨ ff = farP (widF l d) l) (hf : ff < farP d l) : widF l (d + 1) = d := by
  rw [widF]
  rcases h with ⟨rfl, _⟩ | h
  · rw [if_neg (by simp [widF])]; rfl
  · rw [if_pos (by omega)]
theorem wid_le {l : List Pt} {d ff : Nat} (h : d = 0 ∧ ff = 0 ∨ ff = farP (widF l d) l) (hf : ¬ ff < farP d l) : widF l (d + 1) = widF l d ∧ ff = farP (widF l d) l := by
  rw [widF]
  rcases h with ⟨rfl, rfl⟩ | h
  · rw [if_neg (by simp [widF])]
    exact ⟨rfl, by simp only [widF]; omega⟩
  · rw [if_neg (by omega)]
    exact ⟨rfl, h⟩
set_option maxRecDepth 100000 in
set_option maxHeartbeats 2000000 in
theorem widest_any (A : Option Addr) (n c B dims : Nat) (l : List Po) (w : World) (hl : l.length = n) (hn1 : 1 ≤ n) (hn : n ≤ c) (hc : c ≤ maxLen) (hB : B ≤ w.heap.size) (hd : ∀ p ∈ l, p.2.length = dims ∧ InI p.2) (hdm : dims ≤ 4) (hr : RdPo w B A l) :
    Calls Tryz.prog 69 #[.int .i64 (dims : Nat), .slice A n c] w (fun en w' => en = .returned (.int .i64 ((widF l dims : Nat) : Int)) ∧ Fr No w w') := by
  have HL := hide hl
  have HR := hide hr
  have HD := hide hd
  unfold maxLen at hc
  clear hl hr hd
  go_enter Tryz.func69, Tryz.ntmps69
  go_wp2
  go_loopw [5, 6, 7, 8, 9, 11, 12, 14] (fun b f _ _ _ _ _ i wr => ∃ (k bb ff : Nat), k ≤ dims ∧ i = .int .i64 (k : Nat) ∧ b = .int .i64 (bb : Nat) ∧ f = .int .u64 (ff : Nat) ∧ Hid (bb = widF l k) ∧ Hid (k = 0 ∧ ff = 0 ∨ ff = farP bb l) ∧ Hid (Fr No w wr)) (fun _ _ _ _ _ _ _ i _ => dims - (intOf i).toNat)
  case atStart => exact ⟨0, 0, 0, by omega, by go_num, by go_num, by go_num, hide rfl, hide (.inl ⟨rfl, rfl⟩), hide (Fr.refl _ _)⟩
  case round =>
    obtain ⟨wo, rfl⟩ : ∃ wo : World, wo = wr := ⟨_, rfl⟩
    obtain ⟨d, bb, ff, hdk, rfl, rfl, rfl, HBb, HFf, HF⟩ := hrel
    by_cases hlt : d < dims
    · have hl0 : 0 < l.length := by rw [HL.out]; omega
      obtain ⟨ad, A0, c0, rfl, _, k0, k1, e1, e2, hrk⟩ := (HR.out.fr0 HF.out).at hl0
      have hp0 := HD.out _ (getP_mem hl0)
      have hfar : farP d l = (highP d l ((l.getD 0 noPt).2.getD d 0) - lowP d l ((l.getD 0 noPt).2.getD d 0)).toNat := rfl
      have e00 : l.getD 0 noPt = l.getD 0 noPo := rfl
      rw [e00] at hfar
      obtain ⟨p0, hp0e⟩ : ∃ x, x = l.getD 0 noPo := ⟨_, rfl⟩
      rw [← hp0e] at k0 k1 e1 hrk hp0 hfar
      rw [hp0.1] at k1 e1
      obtain ⟨ad0, rfl, _, hx0⟩ := hrk.intAt (j := d) (by rw [hp0.1]; exact hlt)
      have hx0I := hp0.2 (p0.2.getD d 0) (by rw [List.getD, List.getElem?_eq_getElem (by rw [hp0.1]; exact hlt)]; exact List.getElem_mem _)
      obtain ⟨x0, hx0e⟩ : ∃ x, x = p0.2.getD d 0 := ⟨_, rfl⟩
      rw [← hx0e] at hx0 hx0I hfar
      rw [Nat.zero_mul, Addr.add_zero'] at k0 k1
      have HFar := hide hfar
      unfold maxLen at e2
      clear hl0 hp0 hfar e00 hp0e hrk hx0e
      go_wp2_with (fail)
      go_quiet (fail)
      have HF1 := hide (HF.out.drewN nq)
      obtain ⟨w1, hw1⟩ : ∃ x, x = wo.drewN nq := ⟨_, rfl⟩
      rw [← hw1] at HF1 ⊢
      clear hw1 k0 k1 hx0
      go_wp2_with (fail)
      go_loopw [8, 9, 11, 33] (fun lo hi _ i wr => ∃ (k : Nat) (a b : Int), k ≤ n ∧ i = .int .i64 (k : Nat) ∧ lo = .int .i64 a ∧ hi = .int .i64 b ∧ Hid (a = lowP d (l.take k) x0) ∧ Hid (b = highP d (l.take k) x0) ∧ Hid (Fr No w wr)) (fun _ _ _ i _ => n - (intOf i).toNat)
      case atStart => exact ⟨0, x0, x0, by omega, by go_num, rfl, rfl, hide (by rw [List.take_zero]; rfl), hide (by rw [List.take_zero]; rfl), HF1⟩
      case round =>
        obtain ⟨wx, rfl⟩ : ∃ wo : World, wo = wr := ⟨_, rfl⟩
        obtain ⟨k, a, b, hk, rfl, rfl, rfl, HLo, HHi, HFk⟩ := hrel
        by_cases hlk : k < n
        · have hk1 : k < l.length := by rw [HL.out]; exact hlk
          obtain ⟨ad', A1, c1, e, _, k0, k1, g1, g2, hrk⟩ := (HR.out.fr0 HFk.out).at hk1
          cases e
          have hpk := HD.out _ (getP_mem hk1)
          have htk := take_snocP hk1
          obtain ⟨pk, hpke⟩ : ∃ x, x = l.getD k noPo := ⟨_, rfl⟩
          rw [← hpke] at k0 k1 g1 hrk hpk htk
          rw [hpk.1] at k1 g1
          obtain ⟨ad1, rfl, _, hx1⟩ := hrk.intAt (j := d) (by rw [hpk.1]; exact hlt)
          obtain ⟨dk, hdk⟩ : ∃ x, x = pk.1 := ⟨_, rfl⟩
          rw [← hdk] at k0
          have hlo : lowP d (l.take (k + 1)) x0 = (if pk.2.getD d 0 < a then pk.2.getD d 0 else a) := by rw [htk, lowP_snoc, ← HLo.out]
          have hhi : highP d (l.take (k + 1)) x0 = (if b < pk.2.getD d 0 then pk.2.getD d 0 else b) := by rw [htk, highP_snoc, ← HHi.out]
          obtain ⟨x1, hx1e⟩ : ∃ x, x = pk.2.getD d 0 := ⟨_, rfl⟩
          rw [← hx1e] at hx1 hlo hhi
          have HLo' := hide hlo
          have HHi' := hide hhi
          unfold maxLen at g2
          clear hk1 hpk htk hpke hrk hdk hlo hhi hx1e
          go_wp2_with (fail)
          obtain ⟨w2, hw2⟩ : ∃ x, x = wx.alloc (.cells #[.int .i64 dk, .slice (some ad1) dims c1] 46) := ⟨_, rfl⟩
          obtain ⟨g, hg⟩ : ∃ x, x = wx.heap.size := ⟨_, rfl⟩
          have hb2 : w2.heap[g]? = some (.cells #[.int .i64 dk, .slice (some ad1) dims c1] 46 (0, 0)) := by rw [hw2, hg]; exact heap_alloc_new wx _
          have f2 : Fr No wx w2 := by rw [hw2]; exact (Fr.refl No wx).alloc _
          have q1 := cell_of_row _ _ 1 _ _ _ hb2
          have q2 := f2.cell hx1 (fun h => h)
          have HF2 := hide (HFk.out.tr f2)
          rw [← hw2, ← hg]
          clear hw2 hg hb2 f2 k0 k1 hx1
          go_quiet (fail)
          have HF3 := hide (HF2.out.drewN nq)
          obtain ⟨w3, hw3⟩ : ∃ x, x = w2.drewN nq := ⟨_, rfl⟩
          rw [← hw3] at HF3 ⊢
          clear hw3 q1 q2
          go_wp2_with (fail)
          go_roundw
          case rel => exact ⟨k + 1, _, _, by omega, by go_num, rfl, rfl, hide (by have h := HLo'.out; first | exact h.symm | (rw [h]; split <;> omega)), hide (by have h := HHi'.out; first | exact h.symm | (rw [h]; split <;> omega)), HF3⟩
          case measure => simp [intOf]; omega
        · obtain rfl : k = n := by omega
          have hall : l.take k = l := List.take_of_length_le (by rw [HL.out]; exact Nat.le_refl _)
          rw [hall] at HLo HHi
          have hab : a ≤ b := by
            have h1 := lowP_le d l x0
            have h2 := highP_ge d l x0
            rw [HLo.out, HHi.out]
            omega
          have ha : -9223372036854775808 ≤ a := by rw [HLo.out]; exact lowP_in (fun p hp => (HD.out p hp).2) hx0I.1
          have hb : b ≤ 9223372036854775807 := by rw [HHi.out]; exact highP_in (fun p hp => (HD.out p hp).2) hx0I.2
          have hw := far_wrap ha hb hab
          have hff : farP d l = (b - a).toNat := by rw [HFar.out, ← HLo.out, ← HHi.out]
          obtain ⟨f2, hf2⟩ : ∃ x, x = (b - a).toNat := ⟨_, rfl⟩
          rw [← hf2] at hw hff
          have HFf2 := hide hff
          have hfb : f2 < 18446744073709551616 := by omega
          clear hall hf2 hff hlk
          by_cases hgt : ff < f2
          · have d1 : decide (ff < f2) = true := decide_eq_true hgt
            have d2 : decide ((ff : Int) < (f2 : Int)) = true := decide_eq_true (by omega)
            have hwd : widF l (d + 1) = d := wid_gt (by rw [← HBb.out]; exact HFf.out) (by rw [HFf2.out]; exact hgt)
            go_wp2_with (fail)
            refine ⟨⟨d + 1, d, f2, by omega, by go_num, rfl, rfl, hide hwd.symm, hide (.inr HFf2.out.symm), HFk⟩, ?_⟩
            simp [intOf]; omega
          · have d1 : decide (ff < f2) = false := decide_eq_false hgt
            have d2 : decide ((ff : Int) < (f2 : Int)) = false := decide_eq_false (by omega)
            have hwd := wid_le (l := l) (d := d) (by rw [← HBb.out]; exact HFf.out) (by rw [HFf2.out]; exact hgt)
            rw [← HBb.out] at hwd
            go_wp2_with (fail)
            refine ⟨⟨d + 1, bb, ff, by omega, by go_num, rfl, rfl, hide hwd.1.symm, hide (.inr hwd.2), HFk⟩, ?_⟩
            simp [intOf]; omega
    · obtain rfl : d = dims := by omega
      go_wp2
      go_ret
      exact ⟨by rw [← HBb.out]; rfl, HF.out⟩
end Go.Proofs.YtpopbkcbplmcaaaGreat
