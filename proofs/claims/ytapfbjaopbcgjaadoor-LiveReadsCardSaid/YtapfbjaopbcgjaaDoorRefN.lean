/- The document's reader: Size. -/
import Derived.Test.YtapfbjaopbcgjaaDoorRefCut
import Derived.Test.YtapfbjaopbcgjaaDoorSizeP
import Derived.Deep.RegionWith
namespace Go.Proofs.YtapfbjaopbcgjaaDoor
set_option linter.unusedVariables false
set_option linter.unusedSimpArgs false
open Go.RowKit

set_option maxRecDepth 100000 in
set_option maxHeartbeats 800000 in
theorem refN_bad1 (B g : Nat) (bs : List UInt8) (a : Nat) (w : World) (most : Int) (h : RS w B g bs a 0) (hd : dec 0 0 (bs.drop a) = none) :
    Calls Tryd.prog 58 #[.pointer (some ⟨g, 0, none⟩), .int .i64 most] w (RSRet (.int .i64 0) w B g bs a 20) := by
  obtain ⟨A, c, ⟨c0, c1, c2⟩, hf, h1, h2, h3, h4, hr, hB⟩ := h.parts
  have HN := hide (refnum_cut hr h1 h2 h3 hB hd)
  simp only [numW] at HN
  have H := hide h
  have HA := hide hr
  clear h hr hd
  by_cases hca : c = a
  · have HN1 := HN.out
    rw [if_pos hca, hca, Nat.sub_self] at HN1
    have HN2 := hide HN1
    clear HN HN1
    go_enter Tryd.func58, Tryd.ntmps58
    go_wp2_with (fail)
    go_region_with (go_at_call 73; refine (HN2.out w.drew rfl).mono ?_; rintro en w1 ⟨rfl, hfr⟩; have HF : Hid (Fr No w w1) := ⟨hfr.os, hfr.tape, hfr.output, hfr.size, hfr.block⟩; clear hfr; have HR1 := hide (H.out.fr0 HF.out); obtain ⟨A1, k1, ⟨e0, e1, e2⟩, hf1, q1, q2, _, _, _⟩ := HR1.out.parts)
    all_goals (try go_wp2)
    all_goals go_ret
    all_goals exact ⟨rfl, HR1.out.set2 20, (HF.out.any (Is g)).put _ _⟩
  · have HN1 := HN.out
    rw [if_neg hca] at HN1
    have HN2 := hide HN1
    clear HN HN1
    go_enter Tryd.func58, Tryd.ntmps58
    go_wp2_with (fail)
    go_region_with (go_at_call 73; refine (HN2.out w.drew rfl).mono ?_; rintro en w1 ⟨rfl, hfr⟩; have HF : Hid (Fr No w w1) := ⟨hfr.os, hfr.tape, hfr.output, hfr.size, hfr.block⟩; clear hfr; have HR1 := hide (H.out.fr0 HF.out); obtain ⟨A1, k1, ⟨e0, e1, e2⟩, hf1, q1, q2, _, _, _⟩ := HR1.out.parts)
    all_goals (try go_wp2)
    all_goals go_ret
    all_goals exact ⟨rfl, HR1.out.set2 20, (HF.out.any (Is g)).put _ _⟩

set_option maxRecDepth 100000 in
set_option maxHeartbeats 800000 in
theorem refN_bad2 (B g : Nat) (bs : List UInt8) (a : Nat) (w : World) (most : Int) (u k : Nat) (h : RS w B g bs a 0) (hd : dec 0 0 (bs.drop a) = some (u, k)) (hneg : most < 0) :
    Calls Tryd.prog 58 #[.pointer (some ⟨g, 0, none⟩), .int .i64 most] w (RSRet (.int .i64 0) w B g bs a 20) := by
  obtain ⟨A, c, ⟨c0, c1, c2⟩, hf, h1, h2, h3, h4, hr, hB⟩ := h.parts
  have HN := hide (refnum_cut hr h1 h2 h3 hB hd)
  simp only [numW] at HN
  have H := hide h
  have HA := hide hr
  have hk := dec_le _ _ _ _ _ hd
  have hk1 : a + k ≤ bs.length := by have := hk.2; simp at this; omega
  have hk0 : ((k : Int) == 0) = false := by have := hk.1; simp; omega
  have hu := dec_lt _ 0 0 u k (by decide) hd
  clear hk
  clear h hr hd
  by_cases hca : c = a
  · have HN1 := HN.out
    rw [if_pos hca, hca, Nat.sub_self] at HN1
    have HN2 := hide HN1
    clear HN HN1
    go_enter Tryd.func58, Tryd.ntmps58
    go_wp2_with (fail)
    go_region_with (go_at_call 73; refine (HN2.out w.drew rfl).mono ?_; rintro en w1 ⟨rfl, hfr⟩; have HF : Hid (Fr No w w1) := ⟨hfr.os, hfr.tape, hfr.output, hfr.size, hfr.block⟩; clear hfr; have HR1 := hide (H.out.fr0 HF.out); obtain ⟨A1, k1, ⟨e0, e1, e2⟩, hf1, q1, q2, _, _, _⟩ := HR1.out.parts)
    all_goals (try go_wp2)
    all_goals go_ret
    all_goals exact ⟨rfl, HR1.out.set2 20, (HF.out.any (Is g)).put _ _⟩
  · have HN1 := HN.out
    rw [if_neg hca] at HN1
    have HN2 := hide HN1
    clear HN HN1
    go_enter Tryd.func58, Tryd.ntmps58
    go_wp2_with (fail)
    go_region_with (go_at_call 73; refine (HN2.out w.drew rfl).mono ?_; rintro en w1 ⟨rfl, hfr⟩; have HF : Hid (Fr No w w1) := ⟨hfr.os, hfr.tape, hfr.output, hfr.size, hfr.block⟩; clear hfr; have HR1 := hide (H.out.fr0 HF.out); obtain ⟨A1, k1, ⟨e0, e1, e2⟩, hf1, q1, q2, _, _, _⟩ := HR1.out.parts)
    all_goals (try go_wp2)
    all_goals go_ret
    all_goals exact ⟨rfl, HR1.out.set2 20, (HF.out.any (Is g)).put _ _⟩

set_option maxRecDepth 100000 in
set_option maxHeartbeats 800000 in
theorem refN_bad3 (B g : Nat) (bs : List UInt8) (a : Nat) (w : World) (m : Nat) (u k : Nat) (h : RS w B g bs a 0) (hd : dec 0 0 (bs.drop a) = some (u, k)) (hm2 : (m : Int) ≤ 9223372036854775807) (hbig : m < u) :
    Calls Tryd.prog 58 #[.pointer (some ⟨g, 0, none⟩), .int .i64 m] w (RSRet (.int .i64 0) w B g bs a 20) := by
  obtain ⟨A, c, ⟨c0, c1, c2⟩, hf, h1, h2, h3, h4, hr, hB⟩ := h.parts
  have HN := hide (refnum_cut hr h1 h2 h3 hB hd)
  simp only [numW] at HN
  have H := hide h
  have HA := hide hr
  have hk := dec_le _ _ _ _ _ hd
  have hk1 : a + k ≤ bs.length := by have := hk.2; simp at this; omega
  have hk0 : ((k : Int) == 0) = false := by have := hk.1; simp; omega
  have hu := dec_lt _ 0 0 u k (by decide) hd
  clear hk
  clear h hr hd
  by_cases hca : c = a
  · have HN1 := HN.out
    rw [if_pos hca, hca, Nat.sub_self] at HN1
    have HN2 := hide HN1
    clear HN HN1
    go_enter Tryd.func58, Tryd.ntmps58
    go_wp2_with (fail)
    go_region_with (go_at_call 73; refine (HN2.out w.drew rfl).mono ?_; rintro en w1 ⟨rfl, hfr⟩; have HF : Hid (Fr No w w1) := ⟨hfr.os, hfr.tape, hfr.output, hfr.size, hfr.block⟩; clear hfr; have HR1 := hide (H.out.fr0 HF.out); obtain ⟨A1, k1, ⟨e0, e1, e2⟩, hf1, q1, q2, _, _, _⟩ := HR1.out.parts)
    all_goals (try go_wp2)
    all_goals go_ret
    all_goals exact ⟨rfl, HR1.out.set2 20, (HF.out.any (Is g)).put _ _⟩
  · have HN1 := HN.out
    rw [if_neg hca] at HN1
    have HN2 := hide HN1
    clear HN HN1
    go_enter Tryd.func58, Tryd.ntmps58
    go_wp2_with (fail)
    go_region_with (go_at_call 73; refine (HN2.out w.drew rfl).mono ?_; rintro en w1 ⟨rfl, hfr⟩; have HF : Hid (Fr No w w1) := ⟨hfr.os, hfr.tape, hfr.output, hfr.size, hfr.block⟩; clear hfr; have HR1 := hide (H.out.fr0 HF.out); obtain ⟨A1, k1, ⟨e0, e1, e2⟩, hf1, q1, q2, _, _, _⟩ := HR1.out.parts)
    all_goals (try go_wp2)
    all_goals go_ret
    all_goals exact ⟨rfl, HR1.out.set2 20, (HF.out.any (Is g)).put _ _⟩

set_option maxRecDepth 100000 in
set_option maxHeartbeats 800000 in
theorem refN_ok (B g : Nat) (bs : List UInt8) (a : Nat) (w : World) (m : Nat) (u k : Nat) (h : RS w B g bs a 0) (hd : dec 0 0 (bs.drop a) = some (u, k)) (hm2 : (m : Int) ≤ 9223372036854775807) (hfit : u ≤ m) :
    Calls Tryd.prog 58 #[.pointer (some ⟨g, 0, none⟩), .int .i64 m] w (RSRet (.int .i64 u) w B g bs (a + k) 0) := by
  obtain ⟨A, c, ⟨c0, c1, c2⟩, hf, h1, h2, h3, h4, hr, hB⟩ := h.parts
  have HN := hide (refnum_cut hr h1 h2 h3 hB hd)
  simp only [numW] at HN
  have H := hide h
  have HA := hide hr
  have hk := dec_le _ _ _ _ _ hd
  have hk1 : a + k ≤ bs.length := by have := hk.2; simp at this; omega
  have hk0 : ((k : Int) == 0) = false := by have := hk.1; simp; omega
  have hu := dec_lt _ 0 0 u k (by decide) hd
  clear hk
  clear h hr hd
  by_cases hca : c = a
  · have HN1 := HN.out
    rw [if_pos hca, hca, Nat.sub_self] at HN1
    have HN2 := hide HN1
    clear HN HN1
    go_enter Tryd.func58, Tryd.ntmps58
    go_wp2_with (fail)
    go_region_with (go_at_call 73; refine (HN2.out w.drew rfl).mono ?_; rintro en w1 ⟨rfl, hfr⟩; have HF : Hid (Fr No w w1) := ⟨hfr.os, hfr.tape, hfr.output, hfr.size, hfr.block⟩; clear hfr; have HR1 := hide (H.out.fr0 HF.out); obtain ⟨A1, k1, ⟨e0, e1, e2⟩, hf1, q1, q2, _, _, _⟩ := HR1.out.parts)
    all_goals (try go_wp2)
    all_goals go_ret
    all_goals exact ⟨by simp, HR1.out.set1 _ hk1, (HF.out.any (Is g)).put _ _⟩
  · have HN1 := HN.out
    rw [if_neg hca] at HN1
    have HN2 := hide HN1
    clear HN HN1
    go_enter Tryd.func58, Tryd.ntmps58
    go_wp2_with (fail)
    go_region_with (go_at_call 73; refine (HN2.out w.drew rfl).mono ?_; rintro en w1 ⟨rfl, hfr⟩; have HF : Hid (Fr No w w1) := ⟨hfr.os, hfr.tape, hfr.output, hfr.size, hfr.block⟩; clear hfr; have HR1 := hide (H.out.fr0 HF.out); obtain ⟨A1, k1, ⟨e0, e1, e2⟩, hf1, q1, q2, _, _, _⟩ := HR1.out.parts)
    all_goals (try go_wp2)
    all_goals go_ret
    all_goals exact ⟨by simp, HR1.out.set1 _ hk1, (HF.out.any (Is g)).put _ _⟩

set_option maxRecDepth 100000 in
set_option maxHeartbeats 800000 in
theorem refN_off (B g : Nat) (bs : List UInt8) (a : Nat) (e : Int) (w : World) (most : Int) (h : RS w B g bs a e) (he : e ≠ 0) :
    Calls Tryd.prog 58 #[.pointer (some ⟨g, 0, none⟩), .int .i64 most] w (RSRet (.int .i64 0) w B g bs a e) := by
  obtain ⟨A, c, ⟨c0, c1, c2⟩, hf, h1, h2, h3, h4, hr, hB⟩ := h.parts
  have hb : (e != 0) = true := by simpa using he
  have H := hide h
  clear h hr he
  go_enter Tryd.func58, Tryd.ntmps58
  go_wp2_with (fail)
  go_ret
  exact ⟨rfl, H.out, Fr.refl _ _⟩

set_option maxRecDepth 100000 in
set_option maxHeartbeats 800000 in
theorem refN_nil (w : World) (most : Int) :
    Calls Tryd.prog 58 #[.pointer none, .int .i64 most] w (Ret (.int .i64 0) w) := by
  go_enter Tryd.func58, Tryd.ntmps58
  go_wp2_with (fail)
  go_ret
  exact ⟨rfl, rfl⟩

theorem refN_any (B g : Nat) (bs : List UInt8) (a : Nat) (e most : Int) (w : World) (h : RS w B g bs a e) (hm2 : most ≤ 9223372036854775807) :
    Calls Tryd.prog 58 #[.pointer (some ⟨g, 0, none⟩), .int .i64 most] w (RSRet (.int .i64 (sizeS bs a e most).1) w B g bs (sizeS bs a e most).2.1 (sizeS bs a e most).2.2) := by
  unfold sizeS
  by_cases he : e = 0
  · subst he
    rw [if_pos rfl]
    cases hd : dec 0 0 (bs.drop a) with
    | none => rw [sizeR_none hd]; exact refN_bad1 B g bs a w most h hd
    | some x =>
      by_cases hneg : most < 0
      · rw [sizeR_no hd (.inl hneg)]; exact refN_bad2 B g bs a w most x.1 x.2 h hd hneg
      · obtain ⟨m, rfl⟩ := Int.eq_ofNat_of_zero_le (a := most) (by omega)
        by_cases hum : m < x.1
        · rw [sizeR_no hd (.inr (by omega))]; exact refN_bad3 B g bs a w m x.1 x.2 h hd hm2 hum
        · rw [sizeR_ok hd (by omega)]; exact refN_ok B g bs a w m x.1 x.2 h hd hm2 (by omega)
  · rw [if_neg he]
    exact refN_off B g bs a e w most h he

end Go.Proofs.YtapfbjaopbcgjaaDoor
