/- The document's reader: Uint, Int. -/
import Derived.Test.YtpnhnnhocekchaaRefCut
import Derived.Test.YtpnhnnhocekchaaTakeU
import Derived.Deep.RegionWith
namespace Go.Proofs.Ytpnhnnhocekchaa
set_option linter.unusedVariables false
set_option linter.unusedSimpArgs false
open Go.RowKit

set_option maxRecDepth 100000 in
set_option maxHeartbeats 800000 in
theorem refU_bad (B g : Nat) (bs : List UInt8) (a : Nat) (w : World)  (h : RS w B g bs a 0) (hd : dec 0 0 (bs.drop a) = none) :
    Calls Try.prog 97 #[.pointer (some ⟨g, 0, none⟩)] w (RSRet (.int .u64 0) w B g bs a 20) := by
  obtain ⟨A, c, ⟨c0, c1, c2⟩, hf, h1, h2, h3, h4, hr, hB⟩ := h.parts
  have HN := hide (refnum_cut hr h1 h2 h3 hB hd)
  simp only [numW] at HN
  have H := hide h
  have HA := hide hr
  clear h hr hd
  by_cases hca : c = a
  · have HN1 := HN.out
    rw [if_pos hca, hca, Nat.sub_self] at HN1
    have HN2 := hide HN1
    clear HN HN1
    go_enter Try.func97, Try.ntmps97
    go_wp2_with (fail)
    go_region_with (go_at_call 107; refine (HN2.out w.drew rfl).mono ?_; rintro en w1 ⟨rfl, hfr⟩; have HF : Hid (Fr No w w1) := ⟨hfr.os, hfr.tape, hfr.output, hfr.size, hfr.block⟩; clear hfr; have HR1 := hide (H.out.fr0 HF.out); obtain ⟨A1, k1, ⟨e0, e1, e2⟩, hf1, q1, q2, _, _, _⟩ := HR1.out.parts)
    all_goals (try go_wp2)
    all_goals go_ret
    all_goals exact ⟨rfl, HR1.out.set2 20, (HF.out.any (Is g)).put _ _⟩
  · have HN1 := HN.out
    rw [if_neg hca] at HN1
    have HN2 := hide HN1
    clear HN HN1
    go_enter Try.func97, Try.ntmps97
    go_wp2_with (fail)
    go_region_with (go_at_call 107; refine (HN2.out w.drew rfl).mono ?_; rintro en w1 ⟨rfl, hfr⟩; have HF : Hid (Fr No w w1) := ⟨hfr.os, hfr.tape, hfr.output, hfr.size, hfr.block⟩; clear hfr; have HR1 := hide (H.out.fr0 HF.out); obtain ⟨A1, k1, ⟨e0, e1, e2⟩, hf1, q1, q2, _, _, _⟩ := HR1.out.parts)
    all_goals (try go_wp2)
    all_goals go_ret
    all_goals exact ⟨rfl, HR1.out.set2 20, (HF.out.any (Is g)).put _ _⟩

set_option maxRecDepth 100000 in
set_option maxHeartbeats 800000 in
theorem refU_ok (B g : Nat) (bs : List UInt8) (a : Nat) (w : World) (u k : Nat) (h : RS w B g bs a 0) (hd : dec 0 0 (bs.drop a) = some (u, k)) :
    Calls Try.prog 97 #[.pointer (some ⟨g, 0, none⟩)] w (RSRet (.int .u64 u) w B g bs (a + k) 0) := by
  obtain ⟨A, c, ⟨c0, c1, c2⟩, hf, h1, h2, h3, h4, hr, hB⟩ := h.parts
  have HN := hide (refnum_cut hr h1 h2 h3 hB hd)
  simp only [numW] at HN
  have H := hide h
  have HA := hide hr
  have hk := dec_le _ _ _ _ _ hd
  have hk1 : a + k ≤ bs.length := by have := hk.2; simp at this; omega
  have hk0 : ((k : Int) == 0) = false := by have := hk.1; simp; omega
  have hu := dec_lt _ 0 0 u k (by decide) hd
  clear hk
  clear h hr hd
  by_cases hca : c = a
  · have HN1 := HN.out
    rw [if_pos hca, hca, Nat.sub_self] at HN1
    have HN2 := hide HN1
    clear HN HN1
    go_enter Try.func97, Try.ntmps97
    go_wp2_with (fail)
    go_region_with (go_at_call 107; refine (HN2.out w.drew rfl).mono ?_; rintro en w1 ⟨rfl, hfr⟩; have HF : Hid (Fr No w w1) := ⟨hfr.os, hfr.tape, hfr.output, hfr.size, hfr.block⟩; clear hfr; have HR1 := hide (H.out.fr0 HF.out); obtain ⟨A1, k1, ⟨e0, e1, e2⟩, hf1, q1, q2, _, _, _⟩ := HR1.out.parts)
    all_goals (try go_wp2)
    all_goals go_ret
    all_goals exact ⟨by rfl, HR1.out.set1 _ hk1, (HF.out.any (Is g)).put _ _⟩
  · have HN1 := HN.out
    rw [if_neg hca] at HN1
    have HN2 := hide HN1
    clear HN HN1
    go_enter Try.func97, Try.ntmps97
    go_wp2_with (fail)
    go_region_with (go_at_call 107; refine (HN2.out w.drew rfl).mono ?_; rintro en w1 ⟨rfl, hfr⟩; have HF : Hid (Fr No w w1) := ⟨hfr.os, hfr.tape, hfr.output, hfr.size, hfr.block⟩; clear hfr; have HR1 := hide (H.out.fr0 HF.out); obtain ⟨A1, k1, ⟨e0, e1, e2⟩, hf1, q1, q2, _, _, _⟩ := HR1.out.parts)
    all_goals (try go_wp2)
    all_goals go_ret
    all_goals exact ⟨by rfl, HR1.out.set1 _ hk1, (HF.out.any (Is g)).put _ _⟩

set_option maxRecDepth 100000 in
set_option maxHeartbeats 800000 in
theorem refU_off (B g : Nat) (bs : List UInt8) (a : Nat) (e : Int) (w : World)  (h : RS w B g bs a e) (he : e ≠ 0) :
    Calls Try.prog 97 #[.pointer (some ⟨g, 0, none⟩)] w (RSRet (.int .u64 0) w B g bs a e) := by
  obtain ⟨A, c, ⟨c0, c1, c2⟩, hf, h1, h2, h3, h4, hr, hB⟩ := h.parts
  have hb : (e != 0) = true := by simpa using he
  have H := hide h
  clear h hr he
  go_enter Try.func97, Try.ntmps97
  go_wp2_with (fail)
  go_ret
  exact ⟨rfl, H.out, Fr.refl _ _⟩

set_option maxRecDepth 100000 in
set_option maxHeartbeats 800000 in
theorem refU_nil (w : World)  :
    Calls Try.prog 97 #[.pointer none] w (Ret (.int .u64 0) w) := by
  go_enter Try.func97, Try.ntmps97
  go_wp2_with (fail)
  go_ret
  exact ⟨rfl, rfl⟩

theorem refU_any (B g : Nat) (bs : List UInt8) (a : Nat) (e : Int) (w : World) (h : RS w B g bs a e) :
    Calls Try.prog 97 #[.pointer (some ⟨g, 0, none⟩)] w (RSRet (.int .u64 (uintR bs a e).1) w B g bs (uintR bs a e).2.1 (uintR bs a e).2.2) := by
  unfold uintR
  by_cases he : e = 0
  · subst he
    rw [if_pos rfl]
    cases hd : dec 0 0 (bs.drop a) with
    | none => exact refU_bad B g bs a w h hd
    | some x => exact refU_ok B g bs a w x.1 x.2 h hd
  · rw [if_neg he]
    exact refU_off B g bs a e w h he

set_option maxRecDepth 100000 in
set_option maxHeartbeats 800000 in
theorem back_any (u : Nat) (w : World) (hu : u < 18446744073709551616) :
    Calls Try.prog 98 #[.int .u64 u] w (Ret (.int .i64 (unzz u)) w) := by
  by_cases h0 : u % 2 = 0
  · have HU := hide (show unzz u = ((u / 2 : Nat) : Int) from if_pos h0)
    have hb : (((u : Int) % 2) == 0) = true := by simp; omega
    clear h0
    go_enter Try.func98, Try.ntmps98
    go_wp2
    go_ret
    exact ⟨by rw [HU.out]; simp [wrap64], rfl⟩
  · have HU := hide (show unzz u = -((u / 2 : Nat) : Int) - 1 from if_neg h0)
    have hb : (((u : Int) % 2) == 0) = false := by simp; omega
    clear h0
    go_enter Try.func98, Try.ntmps98
    go_wp2
    go_ret
    exact ⟨by rw [HU.out]; simp [wrap64], rfl⟩

set_option maxRecDepth 100000 in
set_option maxHeartbeats 800000 in
theorem refI_any (B g : Nat) (bs : List UInt8) (a : Nat) (e : Int) (w : World) (h : RS w B g bs a e) :
    Calls Try.prog 68 #[.pointer (some ⟨g, 0, none⟩)] w (RSRet (.int .i64 (unzz (uintR bs a e).1)) w B g bs (uintR bs a e).2.1 (uintR bs a e).2.2) := by
  have H := hide (refU_any B g bs a e w h)
  have HX := hide (fun W => back_any _ W (uintR_lt bs a e))
  clear h
  generalize uintR bs a e = x at H HX
  go_enter Try.func68, Try.ntmps68
  go_wp2_with (first | (go_at_call 97; refine H.out.mono ?_; rintro en w' ⟨rfl, hq⟩; have HQ := hide hq; clear hq) | (go_at_call 98; refine (HX.out _).mono ?_; rintro en w2 ⟨rfl, rfl⟩))
  go_ret
  exact ⟨rfl, HQ.out⟩

set_option maxRecDepth 100000 in
set_option maxHeartbeats 800000 in
theorem refI_nil (w : World) :
    Calls Try.prog 68 #[.pointer none] w (Ret (.int .i64 0) w) := by
  have HX := hide (back_any 0 w (by omega))
  go_enter Try.func68, Try.ntmps68
  go_wp2_with (first | (go_at_call 97; refine (refU_nil _).mono ?_; rintro en w' ⟨rfl, rfl⟩) | (go_at_call 98; refine HX.out.mono ?_; rintro en w2 ⟨rfl, rfl⟩))
  go_ret
  exact ⟨rfl, rfl⟩

end Go.Proofs.Ytpnhnnhocekchaa
