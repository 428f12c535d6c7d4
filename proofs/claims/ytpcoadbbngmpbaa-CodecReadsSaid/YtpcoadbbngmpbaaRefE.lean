/- The document's reader: Text, Bytes, End. Written by wip/tools/genref2.py. -/
import Derived.Test.YtpcoadbbngmpbaaRefD
import Derived.StillTailTactics
namespace Go.Proofs.Ytpcoadbbngmpbaa
open Go.RowKit

set_option maxRecDepth 100000 in
set_option maxHeartbeats 800000 in
theorem refT_bad1 (B g : Nat) (bs : List UInt8) (a : Nat) (w : World) (most : Int) (h : RS w B g bs a 0) (hd : dec 0 0 (bs.drop a) = none) :
    Calls Try.prog 48 #[.pointer (some ⟨g, 0, none⟩), .int .i64 most] w (RSRet (.string ⟨#[]⟩) w B g bs a 20) := by
  obtain ⟨A, c, ⟨c0, c1, c2⟩, hf, h1, h2, h3, h4, hr, hB⟩ := h.parts
  have HN := hide (refnum_cut hr h1 h2 h3 hB hd)
  simp only [numW] at HN
  have H := hide h
  have HA := hide hr
  clear h hr hd
  by_cases hca : c = a
  · have HN1 := HN.out
    rw [if_pos hca, hca, Nat.sub_self] at HN1
    have HN2 := hide HN1
    clear HN HN1
    go_enter Try.func48, Try.ntmps48
    go_wp2_with (fail)
    go_region_with (go_at_call 55; refine (HN2.out w.drew rfl).mono ?_; rintro en w1 ⟨rfl, hfr⟩; have HF : Hid (Fr No w w1) := ⟨hfr.os, hfr.tape, hfr.output, hfr.size, hfr.block⟩; clear hfr; have HR1 := hide (H.out.fr0 HF.out); obtain ⟨A1, k1, ⟨e0, e1, e2⟩, hf1, q1, q2, _, _, _⟩ := HR1.out.parts)
    all_goals (try go_wp2)
    all_goals
      go_simp
      go_quiet (fail)
      go_wp2
      go_ret
      exact ⟨rfl, (HR1.out.drewN _).set2 20, ((HF.out.any (Is g)).drewN _).put _ _⟩
  · have HN1 := HN.out
    rw [if_neg hca] at HN1
    have HN2 := hide HN1
    clear HN HN1
    go_enter Try.func48, Try.ntmps48
    go_wp2_with (fail)
    go_region_with (go_at_call 55; refine (HN2.out w.drew rfl).mono ?_; rintro en w1 ⟨rfl, hfr⟩; have HF : Hid (Fr No w w1) := ⟨hfr.os, hfr.tape, hfr.output, hfr.size, hfr.block⟩; clear hfr; have HR1 := hide (H.out.fr0 HF.out); obtain ⟨A1, k1, ⟨e0, e1, e2⟩, hf1, q1, q2, _, _, _⟩ := HR1.out.parts)
    all_goals (try go_wp2)
    all_goals
      go_simp
      go_quiet (fail)
      go_wp2
      go_ret
      exact ⟨rfl, (HR1.out.drewN _).set2 20, ((HF.out.any (Is g)).drewN _).put _ _⟩

set_option maxRecDepth 100000 in
set_option maxHeartbeats 800000 in
theorem refT_bad2 (B g : Nat) (bs : List UInt8) (a : Nat) (w : World) (most : Int) (u k : Nat) (h : RS w B g bs a 0) (hd : dec 0 0 (bs.drop a) = some (u, k)) (hneg : most < 0) :
    Calls Try.prog 48 #[.pointer (some ⟨g, 0, none⟩), .int .i64 most] w (RSRet (.string ⟨#[]⟩) w B g bs a 20) := by
  obtain ⟨A, c, ⟨c0, c1, c2⟩, hf, h1, h2, h3, h4, hr, hB⟩ := h.parts
  have HN := hide (refnum_cut hr h1 h2 h3 hB hd)
  simp only [numW] at HN
  have H := hide h
  have HA := hide hr
  have hk := dec_le _ _ _ _ _ hd
  have hk1 : a + k ≤ bs.length := by have := hk.2; simp at this; omega
  have hk0 : ((k : Int) == 0) = false := by have := hk.1; simp; omega
  have hu := dec_lt _ 0 0 u k (by decide) hd
  clear hk
  clear h hr hd
  by_cases hca : c = a
  · have HN1 := HN.out
    rw [if_pos hca, hca, Nat.sub_self] at HN1
    have HN2 := hide HN1
    clear HN HN1
    go_enter Try.func48, Try.ntmps48
    go_wp2_with (fail)
    go_region_with (go_at_call 55; refine (HN2.out w.drew rfl).mono ?_; rintro en w1 ⟨rfl, hfr⟩; have HF : Hid (Fr No w w1) := ⟨hfr.os, hfr.tape, hfr.output, hfr.size, hfr.block⟩; clear hfr; have HR1 := hide (H.out.fr0 HF.out); obtain ⟨A1, k1, ⟨e0, e1, e2⟩, hf1, q1, q2, _, _, _⟩ := HR1.out.parts)
    all_goals (try go_wp2)
    all_goals
      go_simp
      have d1 : decide (most < 0) = true := by simp; omega
      go_quiet (fail)
      clear d1
      go_wp2
      go_ret
      exact ⟨rfl, (HR1.out.drewN _).set2 20, ((HF.out.any (Is g)).drewN _).put _ _⟩
  · have HN1 := HN.out
    rw [if_neg hca] at HN1
    have HN2 := hide HN1
    clear HN HN1
    go_enter Try.func48, Try.ntmps48
    go_wp2_with (fail)
    go_region_with (go_at_call 55; refine (HN2.out w.drew rfl).mono ?_; rintro en w1 ⟨rfl, hfr⟩; have HF : Hid (Fr No w w1) := ⟨hfr.os, hfr.tape, hfr.output, hfr.size, hfr.block⟩; clear hfr; have HR1 := hide (H.out.fr0 HF.out); obtain ⟨A1, k1, ⟨e0, e1, e2⟩, hf1, q1, q2, _, _, _⟩ := HR1.out.parts)
    all_goals (try go_wp2)
    all_goals
      go_simp
      have d1 : decide (most < 0) = true := by simp; omega
      go_quiet (fail)
      clear d1
      go_wp2
      go_ret
      exact ⟨rfl, (HR1.out.drewN _).set2 20, ((HF.out.any (Is g)).drewN _).put _ _⟩

set_option maxRecDepth 100000 in
set_option maxHeartbeats 800000 in
theorem refT_bad3 (B g : Nat) (bs : List UInt8) (a : Nat) (w : World) (m : Nat) (u k : Nat) (h : RS w B g bs a 0) (hd : dec 0 0 (bs.drop a) = some (u, k)) (hm2 : (m : Int) ≤ 9223372036854775807) (hbig : m < u) :
    Calls Try.prog 48 #[.pointer (some ⟨g, 0, none⟩), .int .i64 m] w (RSRet (.string ⟨#[]⟩) w B g bs a 20) := by
  obtain ⟨A, c, ⟨c0, c1, c2⟩, hf, h1, h2, h3, h4, hr, hB⟩ := h.parts
  have HN := hide (refnum_cut hr h1 h2 h3 hB hd)
  simp only [numW] at HN
  have H := hide h
  have HA := hide hr
  have hk := dec_le _ _ _ _ _ hd
  have hk1 : a + k ≤ bs.length := by have := hk.2; simp at this; omega
  have hk0 : ((k : Int) == 0) = false := by have := hk.1; simp; omega
  have hu := dec_lt _ 0 0 u k (by decide) hd
  clear hk
  clear h hr hd
  by_cases hca : c = a
  · have HN1 := HN.out
    rw [if_pos hca, hca, Nat.sub_self] at HN1
    have HN2 := hide HN1
    clear HN HN1
    go_enter Try.func48, Try.ntmps48
    go_wp2_with (fail)
    go_region_with (go_at_call 55; refine (HN2.out w.drew rfl).mono ?_; rintro en w1 ⟨rfl, hfr⟩; have HF : Hid (Fr No w w1) := ⟨hfr.os, hfr.tape, hfr.output, hfr.size, hfr.block⟩; clear hfr; have HR1 := hide (H.out.fr0 HF.out); obtain ⟨A1, k1, ⟨e0, e1, e2⟩, hf1, q1, q2, _, _, _⟩ := HR1.out.parts)
    all_goals (try go_wp2)
    all_goals
      go_simp
      have d1 : decide ((m : Int) < 0) = false := by simp
      have d2 : decide (m < u) = true := by simp; omega
      have i1 : IntKind.u64.wrap (m : Int) = (m : Int) := IntWalk.u64_in _ (by omega)
      go_quiet (fail)
      clear d1 d2 i1
      go_wp2
      go_ret
      exact ⟨rfl, (HR1.out.drewN _).set2 20, ((HF.out.any (Is g)).drewN _).put _ _⟩
  · have HN1 := HN.out
    rw [if_neg hca] at HN1
    have HN2 := hide HN1
    clear HN HN1
    go_enter Try.func48, Try.ntmps48
    go_wp2_with (fail)
    go_region_with (go_at_call 55; refine (HN2.out w.drew rfl).mono ?_; rintro en w1 ⟨rfl, hfr⟩; have HF : Hid (Fr No w w1) := ⟨hfr.os, hfr.tape, hfr.output, hfr.size, hfr.block⟩; clear hfr; have HR1 := hide (H.out.fr0 HF.out); obtain ⟨A1, k1, ⟨e0, e1, e2⟩, hf1, q1, q2, _, _, _⟩ := HR1.out.parts)
    all_goals (try go_wp2)
    all_goals
      go_simp
      have d1 : decide ((m : Int) < 0) = false := by simp
      have d2 : decide (m < u) = true := by simp; omega
      have i1 : IntKind.u64.wrap (m : Int) = (m : Int) := IntWalk.u64_in _ (by omega)
      go_quiet (fail)
      clear d1 d2 i1
      go_wp2
      go_ret
      exact ⟨rfl, (HR1.out.drewN _).set2 20, ((HF.out.any (Is g)).drewN _).put _ _⟩

set_option maxRecDepth 100000 in
set_option maxHeartbeats 800000 in
theorem refT_bad4 (B g : Nat) (bs : List UInt8) (a : Nat) (w : World) (m : Nat) (u k : Nat) (h : RS w B g bs a 0) (hd : dec 0 0 (bs.drop a) = some (u, k)) (hm2 : (m : Int) ≤ 9223372036854775807) (hfit : u ≤ m) (hul : bs.length - a - k < u) :
    Calls Try.prog 48 #[.pointer (some ⟨g, 0, none⟩), .int .i64 m] w (RSRet (.string ⟨#[]⟩) w B g bs a 20) := by
  obtain ⟨A, c, ⟨c0, c1, c2⟩, hf, h1, h2, h3, h4, hr, hB⟩ := h.parts
  have HN := hide (refnum_cut hr h1 h2 h3 hB hd)
  simp only [numW] at HN
  have H := hide h
  have HA := hide hr
  have hk := dec_le _ _ _ _ _ hd
  have hk1 : a + k ≤ bs.length := by have := hk.2; simp at this; omega
  have hk0 : ((k : Int) == 0) = false := by have := hk.1; simp; omega
  have hu := dec_lt _ 0 0 u k (by decide) hd
  clear hk
  clear h hr hd
  by_cases hca : c = a
  · have HN1 := HN.out
    rw [if_pos hca, hca, Nat.sub_self] at HN1
    have HN2 := hide HN1
    clear HN HN1
    go_enter Try.func48, Try.ntmps48
    go_wp2_with (fail)
    go_region_with (go_at_call 55; refine (HN2.out w.drew rfl).mono ?_; rintro en w1 ⟨rfl, hfr⟩; have HF : Hid (Fr No w w1) := ⟨hfr.os, hfr.tape, hfr.output, hfr.size, hfr.block⟩; clear hfr; have HR1 := hide (H.out.fr0 HF.out); obtain ⟨A1, k1, ⟨e0, e1, e2⟩, hf1, q1, q2, _, _, _⟩ := HR1.out.parts)
    all_goals (try go_wp2)
    all_goals
      go_simp
      obtain ⟨x, hx⟩ : ∃ x : Nat, x = bs.length - a := ⟨_, rfl⟩
      obtain ⟨y, hy⟩ : ∃ y : Nat, y = bs.length - a - k := ⟨_, rfl⟩
      have d1 : decide ((m : Int) < 0) = false := by simp
      have d2 : decide (m < u) = false := by simp; omega
      have d3 : decide (y < u) = true := by simp; omega
      have i1 : IntKind.u64.wrap (m : Int) = (m : Int) := IntWalk.u64_in _ (by omega)
      have i2 : IntKind.i64.wrap ((bs.length : Int) - a) = (x : Int) := by rw [IntWalk.i64_in _ (by omega)]; omega
      have i3 : IntKind.i64.wrap ((x : Int) - k) = (y : Int) := by rw [IntWalk.i64_in _ (by omega)]; omega
      have i4 : IntKind.u64.wrap (y : Int) = (y : Int) := IntWalk.u64_in _ (by omega)
      clear hx hy hul
      go_quiet (fail)
      clear i1 i2 i3 i4 d1 d2 d3
      go_wp2
      go_ret
      exact ⟨rfl, (HR1.out.drewN _).set2 20, ((HF.out.any (Is g)).drewN _).put _ _⟩
  · have HN1 := HN.out
    rw [if_neg hca] at HN1
    have HN2 := hide HN1
    clear HN HN1
    go_enter Try.func48, Try.ntmps48
    go_wp2_with (fail)
    go_region_with (go_at_call 55; refine (HN2.out w.drew rfl).mono ?_; rintro en w1 ⟨rfl, hfr⟩; have HF : Hid (Fr No w w1) := ⟨hfr.os, hfr.tape, hfr.output, hfr.size, hfr.block⟩; clear hfr; have HR1 := hide (H.out.fr0 HF.out); obtain ⟨A1, k1, ⟨e0, e1, e2⟩, hf1, q1, q2, _, _, _⟩ := HR1.out.parts)
    all_goals (try go_wp2)
    all_goals
      go_simp
      obtain ⟨x, hx⟩ : ∃ x : Nat, x = bs.length - a := ⟨_, rfl⟩
      obtain ⟨y, hy⟩ : ∃ y : Nat, y = bs.length - a - k := ⟨_, rfl⟩
      have d1 : decide ((m : Int) < 0) = false := by simp
      have d2 : decide (m < u) = false := by simp; omega
      have d3 : decide (y < u) = true := by simp; omega
      have i1 : IntKind.u64.wrap (m : Int) = (m : Int) := IntWalk.u64_in _ (by omega)
      have i2 : IntKind.i64.wrap ((bs.length : Int) - a) = (x : Int) := by rw [IntWalk.i64_in _ (by omega)]; omega
      have i3 : IntKind.i64.wrap ((x : Int) - k) = (y : Int) := by rw [IntWalk.i64_in _ (by omega)]; omega
      have i4 : IntKind.u64.wrap (y : Int) = (y : Int) := IntWalk.u64_in _ (by omega)
      clear hx hy hul
      go_quiet (fail)
      clear i1 i2 i3 i4 d1 d2 d3
      go_wp2
      go_ret
      exact ⟨rfl, (HR1.out.drewN _).set2 20, ((HF.out.any (Is g)).drewN _).put _ _⟩

set_option maxRecDepth 100000 in
set_option maxHeartbeats 800000 in
theorem refT_ok (B g : Nat) (bs : List UInt8) (a : Nat) (w : World) (m u k : Nat) (h : RS w B g bs a 0) (hd : dec 0 0 (bs.drop a) = some (u, k)) (hm2 : (m : Int) ≤ 9223372036854775807) (hfit : u ≤ m) (hul : u ≤ (bs.drop a).length - k) :
    Calls Try.prog 48 #[.pointer (some ⟨g, 0, none⟩), .int .i64 m] w (RSRet (.string ⟨(((bs.drop a).drop k).take u).toArray⟩) w B g bs (a + k + u) 0) := by
  obtain ⟨A, c, ⟨c0, c1, c2⟩, hf, h1, h2, h3, h4, hr, hB⟩ := h.parts
  have HN := hide (refnum_cut hr h1 h2 h3 hB hd)
  simp only [numW] at HN
  have H := hide h
  have hk := dec_le _ _ _ _ _ hd
  have hk2 : a + k + u ≤ bs.length := by have := hk.2; simp at this hul; omega
  have hk0 : ((k : Int) == 0) = false := by have := hk.1; simp; omega
  have hu := dec_lt _ 0 0 u k (by decide) hd
  have HC : Hid (∀ (w' : World) (A : Option Addr) (c : Nat), bs.length ≤ c → Rd w' B A (by8 bs) → (convert 22 9 (.slice (if c = a + k then A else A.map (·.add (a + k))) u (c - (a + k)))).run Try.prog w' = .ok (.string ⟨(((bs.drop a).drop k).take u).toArray⟩) w') := fun w' A c h1 hw => conv_rd w' _ _ _ _ (by simp; omega) (by
    rw [List.drop_drop, by8_take, by8_drop]
    exact (hw.cut (by rw [by8_length]; exact h1)).tk u)
  generalize ((bs.drop a).drop k).take u = t at HC
  clear h hr hd hk hul
  unfold maxLen at h2
  by_cases hca : c = a
  · exfalso
    simp at hk0
    omega
  · have HN1 := HN.out
    rw [if_neg hca] at HN1
    have HN2 := hide HN1
    clear HN HN1
    go_enter Try.func48, Try.ntmps48
    go_wp2_with (fail)
    go_region_with (go_at_call 55; refine (HN2.out w.drew rfl).mono ?_; rintro en w1 ⟨rfl, hfr⟩; have HF : Hid (Fr No w w1) := ⟨hfr.os, hfr.tape, hfr.output, hfr.size, hfr.block⟩; clear hfr; have HR1 := hide (H.out.fr0 HF.out); have hgl := HR1.out.lt; obtain ⟨A1, k1, ⟨e0, e1, e2⟩, hf1, q1, q2, _, _, _⟩ := HR1.out.parts)
    all_goals (try go_wp2)
    all_goals
      go_simp
      obtain ⟨x, hx⟩ : ∃ x : Nat, x = bs.length - a := ⟨_, rfl⟩
      obtain ⟨y, hy⟩ : ∃ y : Nat, y = bs.length - a - k := ⟨_, rfl⟩
      have d1 : decide ((m : Int) < 0) = false := by simp
      have d2 : decide (m < u) = false := by simp; omega
      have d3 : decide (y < u) = false := by simp; omega
      have i1 : IntKind.u64.wrap (m : Int) = (m : Int) := IntWalk.u64_in _ (by omega)
      have i2 : IntKind.i64.wrap ((bs.length : Int) - a) = (x : Int) := by rw [IntWalk.i64_in _ (by omega)]; omega
      have i3 : IntKind.i64.wrap ((x : Int) - k) = (y : Int) := by rw [IntWalk.i64_in _ (by omega)]; omega
      have i4 : IntKind.u64.wrap (y : Int) = (y : Int) := IntWalk.u64_in _ (by omega)
      clear hx hy
      go_quiet (fail)
      clear i1 i2 i3 i4 d1 d2 d3
      go_wp2
      have H2 := hide ((HR1.out.drewN nq).set1 (a + k + u) hk2)
      have F2 := hide (((HF.out.any (Is g)).drewN nq).put 1 (.int .i64 ((a + k + u : Nat) : Int)))
      rw [show ((a + k + u : Nat) : Int) = (a : Int) + k + u by omega] at H2 F2
      generalize (w1.drewN nq).setCell ⟨g, 1, none⟩ (.int .i64 ((a : Int) + k + u)) = w2 at H2 F2 ⊢
      clear e0 e1 e2 hf1 q1 q2 HR1 HF hgl
      obtain ⟨A2, k2, ⟨e0, e1, e2⟩, hf1, q1, q2, _, _, hr2, _⟩ := H2.out.parts
      have hcv := fun nq => HC.out (w2.drewN nq) A2 k2 q1 hr2
      have t0 : 0 ≤ (a : Int) + k := by omega
      have t1 : ((a : Int) + k).toNat = a + k := by omega
      have t2 : (a : Int) + k ≤ ((a + k + u : Nat) : Int) := by omega
      have t3 : a + k + u ≤ k2 := by omega
      have t4 : a + k + u - (a + k) = u := by omega
      clear hr2
      go_quiet (fail)
      go_wp2
      all_goals go_ret
      all_goals exact ⟨rfl, H2.out.drewN _, F2.out.drewN _⟩

set_option maxRecDepth 100000 in
set_option maxHeartbeats 800000 in
theorem refT_off (B g : Nat) (bs : List UInt8) (a : Nat) (e : Int) (w : World) (most : Int) (h : RS w B g bs a e) (he : e ≠ 0) :
    Calls Try.prog 48 #[.pointer (some ⟨g, 0, none⟩), .int .i64 most] w (RSRet (.string ⟨#[]⟩) w B g bs a e) := by
  obtain ⟨A, c, ⟨c0, c1, c2⟩, hf, h1, h2, h3, h4, hr, hB⟩ := h.parts
  have hb : (e != 0) = true := by simpa using he
  have H := hide h
  clear h hr he
  go_enter Try.func48, Try.ntmps48
  go_wp2_with (fail)
  go_ret
  exact ⟨rfl, H.out, Fr.refl _ _⟩

set_option maxRecDepth 100000 in
set_option maxHeartbeats 800000 in
theorem refT_nil (w : World) (most : Int) :
    Calls Try.prog 48 #[.pointer none, .int .i64 most] w (Ret (.string ⟨#[]⟩) w) := by
  go_enter Try.func48, Try.ntmps48
  go_wp2_with (fail)
  go_ret
  exact ⟨rfl, rfl⟩

theorem refT_any (B g : Nat) (bs : List UInt8) (a : Nat) (e most : Int) (w : World) (h : RS w B g bs a e) (hm2 : most ≤ 9223372036854775807) :
    Calls Try.prog 48 #[.pointer (some ⟨g, 0, none⟩), .int .i64 most] w (RSRet (.string ⟨(textS bs a e most).1.toArray⟩) w B g bs (textS bs a e most).2.1 (textS bs a e most).2.2) := by
  unfold textS
  by_cases he : e = 0
  · subst he
    rw [if_pos rfl]
    cases hd : dec 0 0 (bs.drop a) with
    | none => rw [textR_none hd]; exact refT_bad1 B g bs a w most h hd
    | some x =>
      by_cases hneg : most < 0
      · rw [textR_no hd (.inl hneg)]; exact refT_bad2 B g bs a w most x.1 x.2 h hd hneg
      · obtain ⟨m, rfl⟩ := Int.eq_ofNat_of_zero_le (a := most) (by omega)
        by_cases hum : m < x.1
        · rw [textR_no hd (.inr (.inl (by omega)))]; exact refT_bad3 B g bs a w m x.1 x.2 h hd hm2 hum
        · by_cases hul : (bs.drop a).length - x.2 < x.1
          · rw [textR_no hd (.inr (.inr hul))]; exact refT_bad4 B g bs a w m x.1 x.2 h hd hm2 (by omega) (by simpa using hul)
          · rw [textR_ok hd (by omega)]
            have h1 := refT_ok B g bs a w m x.1 x.2 h hd hm2 (by omega) (by omega)
            rw [Nat.add_assoc] at h1
            exact h1
  · rw [if_neg he]
    exact refT_off B g bs a e w most h he

end Go.Proofs.Ytpcoadbbngmpbaa
