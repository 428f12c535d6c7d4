/- Several texts in one: RefU, RefBy, RefGet03, RefN. -/
import Derived.Test.YtnjcncidlhllmaaGreatK16
import Derived.Deep.RegionWith
import Derived.StillTailTactics
import Derived.Deep.DeepCutAuto
namespace Go.Proofs.YtnjcncidlhllmaaGreat
set_option linter.unusedVariables false
set_option linter.unusedSimpArgs false
open Go.RowKit

set_option maxRecDepth 100000 in
set_option maxHeartbeats 800000 in
theorem refU_bad (B g : Nat) (bs : List UInt8) (a : Nat) (w : World)  (h : RS w B g bs a 0) (hd : dec 0 0 (bs.drop a) = none) :
    Calls Tryz.prog 140 #[.pointer (some ⟨g, 0, none⟩)] w (RSRet (.int .u64 0) w B g bs a 20) := by
  obtain ⟨A, c, ⟨c0, c1, c2⟩, hf, h1, h2, h3, h4, hr, hB⟩ := h.parts
  have HN := hide (refnum_cut hr h1 h2 h3 hB hd)
  simp only [numW] at HN
  have H := hide h
  have HA := hide hr
  clear h hr hd
  by_cases hca : c = a
  · have HN1 := HN.out
    rw [if_pos hca, hca, Nat.sub_self] at HN1
    have HN2 := hide HN1
    clear HN HN1
    go_enter Tryz.func140, Tryz.ntmps140
    go_wp2_with (fail)
    go_region_with (go_at_call 90; refine (HN2.out w.drew rfl).mono ?_; rintro en w1 ⟨rfl, hfr⟩; have HF : Hid (Fr No w w1) := ⟨hfr.os, hfr.tape, hfr.output, hfr.size, hfr.block⟩; clear hfr; have HR1 := hide (H.out.fr0 HF.out); obtain ⟨A1, k1, ⟨e0, e1, e2⟩, hf1, q1, q2, _, _, _⟩ := HR1.out.parts)
    all_goals (try go_wp2)
    all_goals go_ret
    all_goals exact ⟨rfl, HR1.out.set2 20, (HF.out.any (Is g)).put _ _⟩
  · have HN1 := HN.out
    rw [if_neg hca] at HN1
    have HN2 := hide HN1
    clear HN HN1
    go_enter Tryz.func140, Tryz.ntmps140
    go_wp2_with (fail)
    go_region_with (go_at_call 90; refine (HN2.out w.drew rfl).mono ?_; rintro en w1 ⟨rfl, hfr⟩; have HF : Hid (Fr No w w1) := ⟨hfr.os, hfr.tape, hfr.output, hfr.size, hfr.block⟩; clear hfr; have HR1 := hide (H.out.fr0 HF.out); obtain ⟨A1, k1, ⟨e0, e1, e2⟩, hf1, q1, q2, _, _, _⟩ := HR1.out.parts)
    all_goals (try go_wp2)
    all_goals go_ret
    all_goals exact ⟨rfl, HR1.out.set2 20, (HF.out.any (Is g)).put _ _⟩

set_option maxRecDepth 100000 in
set_option maxHeartbeats 800000 in
theorem refU_ok (B g : Nat) (bs : List UInt8) (a : Nat) (w : World) (u k : Nat) (h : RS w B g bs a 0) (hd : dec 0 0 (bs.drop a) = some (u, k)) :
    Calls Tryz.prog 140 #[.pointer (some ⟨g, 0, none⟩)] w (RSRet (.int .u64 u) w B g bs (a + k) 0) := by
  obtain ⟨A, c, ⟨c0, c1, c2⟩, hf, h1, h2, h3, h4, hr, hB⟩ := h.parts
  have HN := hide (refnum_cut hr h1 h2 h3 hB hd)
  simp only [numW] at HN
  have H := hide h
  have HA := hide hr
  have hk := dec_le _ _ _ _ _ hd
  have hk1 : a + k ≤ bs.length := by have := hk.2; simp at this; omega
  have hk0 : ((k : Int) == 0) = false := by have := hk.1; simp; omega
  have hu := dec_lt _ 0 0 u k (by decide) hd
  clear hk
  clear h hr hd
  by_cases hca : c = a
  · have HN1 := HN.out
    rw [if_pos hca, hca, Nat.sub_self] at HN1
    have HN2 := hide HN1
    clear HN HN1
    go_enter Tryz.func140, Tryz.ntmps140
    go_wp2_with (fail)
    go_region_with (go_at_call 90; refine (HN2.out w.drew rfl).mono ?_; rintro en w1 ⟨rfl, hfr⟩; have HF : Hid (Fr No w w1) := ⟨hfr.os, hfr.tape, hfr.output, hfr.size, hfr.block⟩; clear hfr; have HR1 := hide (H.out.fr0 HF.out); obtain ⟨A1, k1, ⟨e0, e1, e2⟩, hf1, q1, q2, _, _, _⟩ := HR1.out.parts)
    all_goals (try go_wp2)
    all_goals go_ret
    all_goals exact ⟨by rfl, HR1.out.set1 _ hk1, (HF.out.any (Is g)).put _ _⟩
  · have HN1 := HN.out
    rw [if_neg hca] at HN1
    have HN2 := hide HN1
    clear HN HN1
    go_enter Tryz.func140, Tryz.ntmps140
    go_wp2_with (fail)
    go_region_with (go_at_call 90; refine (HN2.out w.drew rfl).mono ?_; rintro en w1 ⟨rfl, hfr⟩; have HF : Hid (Fr No w w1) := ⟨hfr.os, hfr.tape, hfr.output, hfr.size, hfr.block⟩; clear hfr; have HR1 := hide (H.out.fr0 HF.out); obtain ⟨A1, k1, ⟨e0, e1, e2⟩, hf1, q1, q2, _, _, _⟩ := HR1.out.parts)
    all_goals (try go_wp2)
    all_goals go_ret
    all_goals exact ⟨by rfl, HR1.out.set1 _ hk1, (HF.out.any (Is g)).put _ _⟩

set_option maxRecDepth 100000 in
set_option maxHeartbeats 800000 in
theorem refU_off (B g : Nat) (bs : List UInt8) (a : Nat) (e : Int) (w : World)  (h : RS w B g bs a e) (he : e ≠ 0) :
    Calls Tryz.prog 140 #[.pointer (some ⟨g, 0, none⟩)] w (RSRet (.int .u64 0) w B g bs a e) := by
  obtain ⟨A, c, ⟨c0, c1, c2⟩, hf, h1, h2, h3, h4, hr, hB⟩ := h.parts
  have hb : (e != 0) = true := by simpa using he
  have H := hide h
  clear h hr he
  go_enter Tryz.func140, Tryz.ntmps140
  go_wp2_with (fail)
  go_ret
  exact ⟨rfl, H.out, Fr.refl _ _⟩

set_option maxRecDepth 100000 in
set_option maxHeartbeats 800000 in
theorem refU_nil (w : World)  :
    Calls Tryz.prog 140 #[.pointer none] w (Ret (.int .u64 0) w) := by
  go_enter Tryz.func140, Tryz.ntmps140
  go_wp2_with (fail)
  go_ret
  exact ⟨rfl, rfl⟩

theorem refU_any (B g : Nat) (bs : List UInt8) (a : Nat) (e : Int) (w : World) (h : RS w B g bs a e) :
    Calls Tryz.prog 140 #[.pointer (some ⟨g, 0, none⟩)] w (RSRet (.int .u64 (uintR bs a e).1) w B g bs (uintR bs a e).2.1 (uintR bs a e).2.2) := by
  unfold uintR
  by_cases he : e = 0
  · subst he
    rw [if_pos rfl]
    cases hd : dec 0 0 (bs.drop a) with
    | none => exact refU_bad B g bs a w h hd
    | some x => exact refU_ok B g bs a w x.1 x.2 h hd
  · rw [if_neg he]
    exact refU_off B g bs a e w h he

set_option maxRecDepth 100000 in
set_option maxHeartbeats 800000 in
theorem back_any (u : Nat) (w : World) (hu : u < 18446744073709551616) :
    Calls Tryz.prog 141 #[.int .u64 u] w (Ret (.int .i64 (unzz u)) w) := by
  by_cases h0 : u % 2 = 0
  · have HU := hide (show unzz u = ((u / 2 : Nat) : Int) from if_pos h0)
    have hb : (((u : Int) % 2) == 0) = true := by simp; omega
    clear h0
    go_enter Tryz.func141, Tryz.ntmps141
    go_wp2
    go_ret
    exact ⟨by rw [HU.out]; simp [wrap64], rfl⟩
  · have HU := hide (show unzz u = -((u / 2 : Nat) : Int) - 1 from if_neg h0)
    have hb : (((u : Int) % 2) == 0) = false := by simp; omega
    clear h0
    go_enter Tryz.func141, Tryz.ntmps141
    go_wp2
    go_ret
    exact ⟨by rw [HU.out]; simp [wrap64], rfl⟩

set_option maxRecDepth 100000 in
set_option maxHeartbeats 800000 in
theorem refI_any (B g : Nat) (bs : List UInt8) (a : Nat) (e : Int) (w : World) (h : RS w B g bs a e) :
    Calls Tryz.prog 117 #[.pointer (some ⟨g, 0, none⟩)] w (RSRet (.int .i64 (unzz (uintR bs a e).1)) w B g bs (uintR bs a e).2.1 (uintR bs a e).2.2) := by
  have H := hide (refU_any B g bs a e w h)
  have HX := hide (fun W => back_any _ W (uintR_lt bs a e))
  clear h
  generalize uintR bs a e = x at H HX
  go_enter Tryz.func117, Tryz.ntmps117
  go_wp2_with (first | (go_at_call 140; refine H.out.mono ?_; rintro en w' ⟨rfl, hq⟩; have HQ := hide hq; clear hq) | (go_at_call 141; refine (HX.out _).mono ?_; rintro en w2 ⟨rfl, rfl⟩))
  go_ret
  exact ⟨rfl, HQ.out⟩

set_option maxRecDepth 100000 in
set_option maxHeartbeats 800000 in
theorem refI_nil (w : World) :
    Calls Tryz.prog 117 #[.pointer none] w (Ret (.int .i64 0) w) := by
  have HX := hide (back_any 0 w (by omega))
  go_enter Tryz.func117, Tryz.ntmps117
  go_wp2_with (first | (go_at_call 140; refine (refU_nil _).mono ?_; rintro en w' ⟨rfl, rfl⟩) | (go_at_call 141; refine HX.out.mono ?_; rintro en w2 ⟨rfl, rfl⟩))
  go_ret
  exact ⟨rfl, rfl⟩

end Go.Proofs.YtnjcncidlhllmaaGreat
namespace Go.Proofs.YtnjcncidlhllmaaGreat
set_option linter.unusedVariables false
set_option linter.unusedSimpArgs false
open Go.RowKit

set_option maxRecDepth 100000 in
set_option maxHeartbeats 800000 in
theorem refB_bad (B g : Nat) (bs : List UInt8) (a : Nat) (w : World) (x : Int) (h : RS w B g bs a 0) (hx : x < 0 ∨ ((bs.length - a : Nat) : Int) < x) :
    Calls Tryz.prog 86 #[.pointer (some ⟨g, 0, none⟩), .int .i64 x] w (RSRet (.slice none 0 0) w B g bs a 20) := by
  obtain ⟨A, c, ⟨c0, c1, c2⟩, hf, h1, h2, h3, h4, hr, hB⟩ := h.parts
  have H := hide h
  clear h
  clear hr
  obtain ⟨y, hy⟩ : ∃ y : Nat, y = bs.length - a := ⟨_, rfl⟩
  have i2 : IntKind.i64.wrap ((bs.length : Int) - a) = (y : Int) := by rw [IntWalk.i64_in _ (by omega)]; omega
  rw [← hy] at hx
  clear hy
  by_cases h0 : x < 0
  · have d1 : decide (x < 0) = true := by simp; omega
    go_enter Tryz.func86, Tryz.ntmps86
    go_wp2
    go_quiet (fail)
    clear d1 i2
    go_wp2
    go_ret
    exact ⟨rfl, (H.out.drewN _).set2 20, ((Fr.refl _ _).drewN _).put _ _⟩
  · have d1 : decide (x < 0) = false := by simp; omega
    have d2 : decide ((y : Int) < x) = true := by simp; omega
    go_enter Tryz.func86, Tryz.ntmps86
    go_wp2
    go_quiet (fail)
    clear d1 d2 i2
    go_wp2
    go_ret
    exact ⟨rfl, (H.out.drewN _).set2 20, ((Fr.refl _ _).drewN _).put _ _⟩

def GivesRSB (s : List UInt8) (w : World) (B g : Nat) (bs : List UInt8) (a : Nat) (e : Int) (en : Ending) (w' : World) : Prop :=
  ∃ v, en = .returned v ∧ Own w' w.heap.size 5 1 v s.length (by8 s) ∧ RS w' B g bs a e ∧ Fr (Is g) w w'

set_option maxRecDepth 100000 in
set_option maxHeartbeats 800000 in
theorem refB_ok (B g : Nat) (bs : List UInt8) (a : Nat) (w : World) (k : Nat) (h : RS w B g bs a 0) (hk : a + k ≤ bs.length) :
    Calls Tryz.prog 86 #[.pointer (some ⟨g, 0, none⟩), .int .i64 k] w (GivesRSB ((bs.drop a).take k) w B g bs (a + k) 0) := by
  obtain ⟨A, c, ⟨c0, c1, c2⟩, hf, h1, h2, h3, h4, hr, hB⟩ := h.parts
  have H := hide h
  clear h
  obtain ⟨i0, hi, hz, hsz, hby⟩ := info_parts Tryz.info5
  have htl : ((bs.drop a).take k).length = k := by simp; omega
  have HS : Hid (∀ (w' : World) (A : Option Addr) (c : Nat), bs.length ≤ c → Rd w' B A (by8 bs) → Src Tryz.prog 1 25 (.slice (if c = a then A else A.map (·.add a)) k (c - a)) k (by8 ((bs.drop a).take k)) w') := fun w' A c h1 hw => Src.ofRd (P := Tryz.prog) (size := 1) (B := B) w' Tryz.underlying25 _ k _ _ (by rw [by8_length, htl]; omega) (by omega) (by
    rw [by8_take, by8_drop]
    exact (hw.cut (by rw [by8_length]; exact h1)).tk k) (by8_one _)
  have HTL := hide htl
  generalize (bs.drop a).take k = t at HS HTL
  clear htl hr
  obtain ⟨y, hy⟩ : ∃ y : Nat, y = bs.length - a := ⟨_, rfl⟩
  obtain ⟨z, hz'⟩ : ∃ z : Nat, z = a + k := ⟨_, rfl⟩
  have i2 : IntKind.i64.wrap ((bs.length : Int) - a) = (y : Int) := by rw [IntWalk.i64_in _ (by omega)]; omega
  have i3 : IntKind.i64.wrap ((a : Int) + k) = (z : Int) := by rw [IntWalk.i64_in _ (by omega)]; omega
  have d1 : decide ((k : Int) < 0) = false := by simp
  have d2 : decide (y < k) = false := by simp; omega
  have t3 : z ≤ c := by omega
  have t4 : z - a = k := by omega
  have t5 : a ≤ z := by omega
  have t7 : z ≤ bs.length := by omega
  have HZ := hide hz'
  have b1 : (0 + k) * 1 ≤ 140737488355328 := by omega
  have b2 : 0 + k ≤ maxLen := by unfold maxLen; omega
  clear hy hz'
  go_enter Tryz.func86, Tryz.ntmps86
  go_wp2
  go_quiet (fail)
  clear i2 d1 d2
  go_wp2
  have H3 := hide (H.out.drewN nq)
  have F3 := hide ((Fr.refl No w).drewN nq)
  generalize w.drewN nq = w3 at H3 F3 ⊢
  clear c0 c1 c2 hf H
  obtain ⟨A3, k3, ⟨e0, e1, e2⟩, hf1, q1, q2, _, _, hr3, _⟩ := H3.out.parts
  have t6 : z ≤ k3 := by omega
  have HS3 := hide (HS.out w3.drew A3 k3 q1 hr3)
  have HO0 := hide (Own.nil w3.drew w.heap.size 5 1)
  have b3 : w.heap.size ≤ w3.drew.heap.size := F3.out.size
  clear HS hr3
  unfold maxLen at q2
  go_still_tail 16, (by kernel_rfl)
  change wpList _ _ _ _ _ w3.drew
  go_wp2_with (at_builtin; refine wpList_append_gen _ rfl (.tmp 34) (.tmp 49) 25 25 rfl w.heap.size 5 i0 (.int .u8 0) 1 1 Tryz.underlying25 hi hz hsz hby rfl (.slice none 0 0) 0 [] rfl HO0.out _ k (by8 t) rfl HS3.out b1 b2 b3 ?_; intro v' w4 hown hfr hat; have HO4 := hide hown; have HF4 : Hid (Fr No w w4) := hide (((F3.out.drewN 1)).own hfr (fun g h => by cases h)); have HFa : Hid (Fr No w3 w4) := hide (((Fr.refl No w3).drew).own hfr (fun g h => by cases h)); clear hown hfr hat; have H4 := hide (H3.out.fr0 HFa.out); obtain ⟨A4, k4, ⟨f0, f1, f2⟩, hf4, _⟩ := H4.out.parts)
  all_goals go_ret
  all_goals
    refine ⟨_, rfl, ?_, ?_, ?_⟩
    · rw [HTL.out]
      have h := HO4.out
      rw [Nat.zero_add, List.nil_append] at h
      refine h.fr ((Fr.refl (Is g) w4).put 1 _) ?_
      rintro g' hg' rfl
      obtain ⟨_, _, hh, _⟩ := H4.out
      exact h.ne_blk hg' hh (by decide)
    · have h := H4.out.set1 z t7
      rw [← HZ.out]
      exact h
    · exact (HF4.out.any (Is g)).put _ _

set_option maxRecDepth 100000 in
set_option maxHeartbeats 800000 in
theorem refB_off (B g : Nat) (bs : List UInt8) (a : Nat) (e : Int) (w : World) (x : Int) (h : RS w B g bs a e) (he : e ≠ 0) :
    Calls Tryz.prog 86 #[.pointer (some ⟨g, 0, none⟩), .int .i64 x] w (RSRet (.slice none 0 0) w B g bs a e) := by
  obtain ⟨A, c, ⟨c0, c1, c2⟩, hf, h1, h2, h3, h4, hr, hB⟩ := h.parts
  have hb : (e != 0) = true := by simpa using he
  have H := hide h
  clear h hr he
  go_enter Tryz.func86, Tryz.ntmps86
  go_wp2_with (fail)
  go_ret
  exact ⟨rfl, H.out, Fr.refl _ _⟩

set_option maxRecDepth 100000 in
set_option maxHeartbeats 800000 in
theorem refB_nil (w : World) (x : Int) :
    Calls Tryz.prog 86 #[.pointer none, .int .i64 x] w (Ret (.slice none 0 0) w) := by
  go_enter Tryz.func86, Tryz.ntmps86
  go_wp2_with (fail)
  go_ret
  exact ⟨rfl, rfl⟩

theorem GivesRSB.nil {w : World} {B g : Nat} {bs : List UInt8} {a : Nat} {e : Int} {en : Ending} {w' : World} (h : RSRet (.slice none 0 0) w B g bs a e en w') : GivesRSB [] w B g bs a e en w' :=
  ⟨_, h.1, Own.nil _ _ _ _, h.2.1, h.2.2⟩

theorem refB_any (B g : Nat) (bs : List UInt8) (a : Nat) (e x : Int) (w : World) (h : RS w B g bs a e) :
    Calls Tryz.prog 86 #[.pointer (some ⟨g, 0, none⟩), .int .i64 x] w (GivesRSB (bytesS bs a e x).1 w B g bs (bytesS bs a e x).2.1 (bytesS bs a e x).2.2) := by
  unfold bytesS
  by_cases he : e = 0
  · subst he
    rw [if_pos rfl]
    unfold bytesR
    by_cases hx : x < 0 ∨ ((bs.drop a).length : Int) < x
    · rw [if_pos hx]
      exact (refB_bad B g bs a w x h (by simpa using hx)).mono fun _ _ h => GivesRSB.nil h
    · rw [if_neg hx]
      obtain ⟨k, rfl⟩ := Int.eq_ofNat_of_zero_le (a := x) (by omega)
      exact refB_ok B g bs a w k h (by
        obtain ⟨_, _, _, _, _, h3, _⟩ := h
        simp at hx
        omega)
  · rw [if_neg he]
    exact (refB_off B g bs a e w x h he).mono fun _ _ h => GivesRSB.nil h

end Go.Proofs.YtnjcncidlhllmaaGreat
namespace Go.Proofs.YtnjcncidlhllmaaGreat
set_option linter.unusedVariables false
set_option linter.unusedSimpArgs false
open Go.RowKit

theorem RS.make {w : World} {B n c : Nat} {A : Option Addr} {bs : List UInt8} (hl : bs.length = n) (h1 : n ≤ c) (h2 : c ≤ maxLen) (h3 : n ≤ 140737488355328) (hr : Rd w B A (by8 bs)) (hB : B ≤ w.heap.size) :
    RS (w.alloc (.cells #[.slice A n c, .int .i64 0, .int .i64 0] 95)) B w.heap.size bs 0 0 := by
  subst hl
  exact ⟨A, c, heap_alloc_new w _, h1, h2, Nat.zero_le _, h3, hr.fr0 ((Fr.refl _ _).alloc _), hB⟩
theorem Tryz.infoI64 : (Tryz.prog.info? 2).map (fun i => (i.zero, i.size, i.bytes)) = some (some (.int .i64 0), 1, 8) := by kernel_rfl
/-- a row that was read, or refused. -/
def GivesGet (r : List Int × Nat × Int) (w : World) (en : Ending) (w' : World) : Prop :=
  ∃ v, en = .returned (.tuple #[v, .int .i64 (r.2.1 : Nat), .int .i64 r.2.2]) ∧ Own w' w.heap.size 2 1 v r.1.length (iz .i64 r.1) ∧ Fr No w w'

set_option maxRecDepth 100000 in
set_option maxHeartbeats 400000 in
theorem refGet_arg (A : Option Addr) (m c : Nat) (ni : Int) (w : World) (h : ni < 0 ∨ 1048576 < ni) :
    Calls Tryz.prog 87 #[.slice A m c, .int .i64 ni] w (Ret (.tuple #[.slice none 0 0, .int .i64 0, .int .i64 1]) w) := by
  by_cases h1 : ni < 0
  · clear h
    go_enter Tryz.func87, Tryz.ntmps87
    go_wp2
    go_ret3
    exact ⟨rfl, rfl⟩
  · have h2 : 1048576 < ni := by omega
    clear h
    go_enter Tryz.func87, Tryz.ntmps87
    go_wp2
    go_ret3
    exact ⟨rfl, rfl⟩

set_option maxRecDepth 100000 in
set_option maxHeartbeats 4000000 in
theorem refGet_in (A : Option Addr) (m c B N : Nat) (b : List UInt8) (w : World) (hl : b.length = m) (hm : m ≤ 140737488355328) (hn : m ≤ c) (hc : c ≤ maxLen) (hN : N ≤ 1048576) (hB : B ≤ w.heap.size) (hr : Rd w B A (by8 b)) :
    Calls Tryz.prog 87 #[.slice A m c, .int .i64 (N : Nat)] w (GivesGet (getZ b N) w) := by
  obtain ⟨i0, hi0, iz0, isz, iby⟩ := info_parts Tryz.infoI64
  have HC := hide hc
  unfold maxLen at hc
  have HR := hide hr
  have HL := hide hl
  obtain ⟨res, hres⟩ : ∃ r, r = getZ b N := ⟨_, rfl⟩
  rw [← hres]
  have HRes := hide hres
  have hbad : ∀ en w', en = .returned (.tuple #[.slice none 0 0, .int .i64 0, .int .i64 20]) → Fr No w w' → Hid (getZ b N = ([], 0, 20)) → GivesGet res w en w' := fun en w' h1 h2 h3 => by
    rw [HRes.out, h3.out]
    exact ⟨_, h1, Own.nil _ _ _ _, h2⟩
  have HBad := hide hbad
  clear hr hl hres hbad
  go_enter Tryz.func87, Tryz.ntmps87
  go_wp2
  go_loopg [7, 8, 9, 10, 11, 12, 13, 14, 15, 16, 17, 18, 19] N (fun gk l a s9 s10 s11 s12 s13 s14 s15 s16 s17 s18 s19 wr => ∃ (xs : List Int) (X a' : Nat), X + gk = N ∧ Hid (xs.length = X) ∧ a = .int .i64 (a' : Nat) ∧ a' ≤ m ∧ Hid (Mid b N xs a') ∧ Hid (Own wr w.heap.size 2 1 l X (iz .i64 xs)) ∧ Hid (Fr No w wr))
  case atStart => exact ⟨[], 0, 0, by omega, hide rfl, rfl, by omega, hide (Mid.start b N), hide (Own.nil _ _ _ _), hide (Fr.refl _ _)⟩
  case round =>
    obtain ⟨xs, X, a, hX, HX, rfl, ham, HMid, HOw, HFr⟩ := hrel
    obtain ⟨Al, cl, rfl, ql1, ql2, _⟩ := HOw.out.form
    unfold maxLen at ql2
    by_cases hlt : X < N
    · obtain ⟨K, hK⟩ : ∃ K, K = min (N - X) 128 := ⟨_, rfl⟩
      have hK1 : 1 ≤ K ∧ K ≤ 128 ∧ X + K ≤ N := by omega
      have HK := hide hK
      obtain ⟨d, hd⟩ : ∃ d, d = N - X := ⟨_, rfl⟩
      have e1 : (N : Int) - (X : Int) = (d : Int) := by omega
      have hKd : K = min d 128 := by omega
      have HD := hide hd
      have HKd := hide hKd
      clear hK hd hKd
      go_upto_if 35 with (fail)
      go_cut [9] from 26 to 133 (fun s wx => s = .int .i64 (K : Nat) ∧ wr = wx)
      case first =>
        by_cases hd2 : 128 < d
        · obtain rfl : K = 128 := by have := HKd.out; omega
          go_wp2
          go_meet
          case rel => exact ⟨rfl, rfl⟩
        · obtain rfl : K = d := by have := HKd.out; omega
          go_wp2
          go_meet
          case rel => exact ⟨rfl, rfl⟩
      case rest =>
        obtain ⟨rfl, rfl⟩ := hcut
        obtain ⟨t, ht⟩ : ∃ t, t = b.drop a := ⟨_, rfl⟩
        have htl : t.length = m - a := by rw [ht, List.length_drop, HL.out]
        have HTd := hide ht
        have HRt := hide (HR.out.fr0 HFr.out)
        have HRt2 : Hid (∀ ad, A = some ad → Rd wr B (some (ad.add a)) (by8 t)) := hide (fun ad e => by
          subst e
          rw [ht, by8_drop]
          exact HRt.out.dr a)
        have hgw := HFr.out.size
        obtain ⟨G, hG⟩ : ∃ G, G = wr.heap.size := ⟨_, rfl⟩
        have HG := hide hG
        clear ht hG
        go_upto_region 9 with (fail)
        go_cut [10] from 26 to 133 (fun s wx => s = .pointer (some ⟨G, 0, none⟩) ∧ Hid (RS wx B G t 0 0) ∧ Hid (Fr No wr wx))
        case first =>
          by_cases hca : c = a
          · subst hca
            obtain rfl : m = c := by omega
            go_wp2
            go_meet
            case rel =>
              refine ⟨by rw [HG.out], hide ?_, hide ((Fr.refl No wr).alloc _)⟩
              rw [HG.out]
              refine RS.make (n := 0) (by rw [htl]; omega) (by omega) (by unfold maxLen; omega) (by omega) ?_ (by omega)
              have e0 : t = [] := List.eq_nil_of_length_eq_zero (by omega)
              rw [e0]
              exact Rd.nil _ _ _
          · go_wp2
            go_meet
            case rel =>
              refine ⟨by rw [HG.out], hide ?_, hide ((Fr.refl No wr).alloc _)⟩
              rw [HG.out]
              refine RS.make htl (by omega) (by unfold maxLen; omega) (by omega) ?_ (by omega)
              cases A with
              | none =>
                intro j u hu
                exfalso
                have := HRt.out.len0
                rw [HTd.out, this] at hu
                simp [by8] at hu
              | some ad => exact HRt2.out ad rfl
        case rest =>
          obtain ⟨rfl, HS0, HF0⟩ := hcut
          have hbb : ∀ en w', en = .returned (.tuple #[.slice none 0 0, .int .i64 0, .int .i64 20]) → Fr No wr w' → Hid (blkB t K = none) → GivesGet res w en w' := fun en w' h1 h2 h3 => by
            refine HBad.out en w' h1 (HFr.out.tr h2) (hide ?_)
            refine HMid.out.bad (by rw [HX.out]; exact hlt) ?_ hN
            rw [HX.out, ← HD.out, ← HKd.out, ← HTd.out]
            exact h3.out
          have HBB := hide hbb
          clear hbb HRes
          have HI1 := hide (refI_any B G t 0 0 wc HS0.out)
          cases hd : dec 0 0 t with
          | none =>
            rw [uintR_none (bs := t) (a := 0) (by simpa using hd)] at HI1
            have HN := hide (b_none (k := K) (p_none hd))
            clear hd
            go_wp2_with (first
              | (go_at_call 117; refine HI1.out.mono ?_; clear HI1; rintro en1 w1 ⟨rfl, hs, hf⟩; have HS1 := hide hs; have HF1 := hide (HF0.out.own1 hf (Nat.le_of_eq HG.out.symm)); have HB1 := hide (refB_any B G t 0 20 1 w1 HS1.out); rw [bS_off t 0 20 1 (by decide)] at HB1; clear hs hf)
              | (go_at_call 86; refine HB1.out.mono ?_; clear HB1; rintro en1 w2 ⟨v2, rfl, hown, hs, hf⟩; have HO2 := hide hown; have HS2 := hide hs; have HF2 := hide (HF1.out.own1 hf (Nat.le_of_eq HG.out.symm)); obtain ⟨A2, c2, rfl, _⟩ := hown.form; obtain ⟨_, _, ⟨d0, d1, d2⟩, _⟩ := hs.parts; clear hown hs hf d0 d1))
            go_ret3
            exact HBB.out _ _ rfl HF2.out HN
          | some uj =>
            obtain ⟨u, j⟩ := uj
            have hj := dec_le _ _ _ _ _ hd
            rw [uintR_some (bs := t) (a := 0) (by simpa using hd), Nat.zero_add] at HI1
            have HDec := hide hd
            clear hd
            by_cases hjt : j < t.length
            · obtain ⟨wb, hwb⟩ : ∃ x, x = (t.getD j 0).toNat := ⟨_, rfl⟩
              have hwb256 : wb < 256 := by rw [hwb]; exact (t.getD j 0).toNat_lt
              by_cases hw64 : wb ≤ 64
              · obtain ⟨sz, hsz⟩ : ∃ s, s = psz wb K := ⟨_, rfl⟩
                have hszb : sz ≤ 1025 := by rw [hsz]; have := psz_le (n := K) hw64; omega
                have hwk : wb * K ≤ 8192 := Nat.le_trans (Nat.mul_le_mul hw64 hK1.2.1) (by decide)
                have em : (wb : Int) * (K : Int) = ((wb * K : Nat) : Int) := by simp
                have ez : (((wb * K : Nat) : Int) + 7) / 8 = (sz : Int) := by rw [hsz]; unfold psz; omega
                obtain ⟨wk, hwkk⟩ : ∃ x, x = wb * K := ⟨_, rfl⟩
                rw [← hwkk] at em ez hwk
                by_cases hsh : j + 1 + sz ≤ t.length
                · obtain ⟨pb, hpb⟩ : ∃ x, x = (t.drop (j + 1)).take sz := ⟨_, rfl⟩
                  have hpl : pb.length = sz := by rw [hpb, List.length_take, List.length_drop]; omega
                  have HPl := hide hpl
                  by_cases hlf : leftN pb wk = 0
                  · have hp := p_some (k := K) HDec.out hjt (by rw [← hwb]; exact hw64) (by rw [← hwb, ← hsz]; exact hsh) (by rw [← hwb, ← hsz, ← hpb, ← hwkk]; exact hlf)
                    rw [← hwb, ← hsz, ← hpb] at hp
                    have hU : unbitsZ pb (wb : Nat) (K : Nat) = (unpacked wb K pb, 0) := by
                      unfold unbitsZ
                      rw [if_neg (by omega), Int.toNat_natCast, Int.toNat_natCast, if_neg (by rw [hpl, ← hsz, ← hwkk]; exact fun h => h.elim (fun h => h rfl) (fun h => h hlf))]
                    obtain ⟨ab, hab⟩ : ∃ x, x = unpacked wb K pb := ⟨_, rfl⟩
                    rw [← hab] at hp hU
                    have habl : ab.length = K := by rw [hab, unpacked_len]
                    have hle := unzz_bd (dec_lt _ 0 0 u j (by decide) HDec.out)
                    obtain ⟨le, hlee⟩ : ∃ x, x = unzz u := ⟨_, rfl⟩
                    rw [← hlee] at hp hle HI1
                    obtain ⟨ys, hys⟩ : ∃ x, x = ab.map (fun (u : Nat) => wrap64 (le + (u : Int))) := ⟨_, rfl⟩
                    have hyl : ys.length = K := by rw [hys, List.length_map, habl]
                    have hyi : InI ys := by
                      rw [hys]
                      intro y hy
                      obtain ⟨q, _, rfl⟩ := List.mem_map.1 hy
                      unfold wrap64
                      omega
                    have hro := ref_ok hK1.1 hp
                    rw [← hys] at hro
                    obtain ⟨M, hMM⟩ : ∃ x, x = j + 1 + sz := ⟨_, rfl⟩
                    rw [← hMM] at hp hro hsh
                    have HRO := hide hro
                    have HP := hide hp
                    have HU := hide hU
                    have HWB := hide hwb
                    have HPB := hide hpb
                    have HAbl := hide habl
                    have HYl := hide hyl
                    have HYi := hide hyi
                    have HYs := hide hys
                    have HMM := hide hMM
                    have hMb : M ≤ 1100 ∨ True := .inr trivial
                    have hstep : ∀ q (h : q < K), iz .i64 (ys.take q) ++ [.int .i64 (wrap64 (le + ((ab.getD q 0 : Nat) : Int)))] = iz .i64 (ys.take (q + 1)) := fun q h => by
                      have h1 : q < ys.length := by rw [hyl]; exact h
                      have h2 : q < ab.length := by rw [habl]; exact h
                      rw [take_snoc_int h1, iz_append]
                      congr 1
                      simp [iz, hys, List.getElem?_eq_getElem h2]
                    have HStep := hide hstep
                    have H64 := hide (show In64 ab by rw [hab]; exact unpacked_64 hw64)
                    clear hsz hwkk hpb hpl hlf hU hj hwb hab habl hlee hys hyl hyi hro hMM hp hstep hMb
                    go_wp2_with (first
                      | (rw [em])
                      | (rw [ez])
                      | (go_at_call 117; refine HI1.out.mono ?_; clear HI1; rintro en1 w1 ⟨rfl, hs, hf⟩; have HS1 := hide hs; have HF1 := hide (HF0.out.own1 hf (Nat.le_of_eq HG.out.symm)); have HB1 := hide (refB_any B G t j 0 1 w1 HS1.out); rw [show (1 : Int) = ((1 : Nat) : Int) from rfl, bS_ok (k := 1) (by omega), un_one hjt] at HB1; clear hs hf)
                      | (go_at_call 86; refine HB2.out.mono ?_; clear HB2; rintro en1 w3 ⟨v3, rfl, hown, hs, hf⟩; have HO3 := hide hown; have HS3 := hide hs; have HF3 := hide (HF2.out.own1 hf (Nat.le_of_eq HG.out.symm)); rw [HPl.out] at hown; obtain ⟨A3, c3, rfl, s1, s2, _⟩ := hown.form; have HUn := hide (refUnb_any A3 sz c3 w3.heap.size (wb : Nat) (K : Nat) pb w3 HPl.out s1 s2 (Nat.le_refl _) hown.rd); rw [HU.out] at HUn; unfold maxLen at s2; have hw0b : w3.cell? ⟨g2, 0, none⟩ = some (.int .u8 (wb : Nat)) := hf.cell (p := ⟨g2, 0, none⟩) hw0 (fun e => by have e : g2 = G := e; have := HF1.out.size; have := HS1.out.lt; omega); obtain ⟨_, _, ⟨d0, d1, d2⟩, _⟩ := hs.parts; clear hown hs hf d0 d1)
                      | (go_at_call 86; refine HB1.out.mono ?_; clear HB1; rintro en1 w2 ⟨v2, rfl, hown, hs, hf⟩; have HO2 := hide hown; have HS2 := hide hs; have HF2 := hide (HF1.out.own1 hf (Nat.le_of_eq HG.out.symm)); have hwb := HWB.out; rw [show ([t.getD j 0] : List UInt8).length = 1 from rfl] at hown; obtain ⟨g2, c2, rfl, r1, r2, r3, r4⟩ := own_some hown (by omega); unfold maxLen at r2; have hw0 : w2.cell? ⟨g2, 0, none⟩ = some (.int .u8 (wb : Nat)) := (by obtain ⟨z1, _⟩ := hown.put (k := 0) (by omega); rw [z1]; simp [by8, hwb]); clear hwb; have HB2 := hide (refB_any B G t (j + 1) 0 (sz : Nat) w2 hs); rw [bS_ok (by rw [← HMM.out]; exact hsh), ← HPB.out] at HB2; obtain ⟨_, _, ⟨d0, d1, d2⟩, _⟩ := hs.parts; clear hown hs hf d0 d1)
                      | (go_at_call 118; refine HUn.out.mono ?_; rintro en1 w4 ⟨v4, rfl, hown, hf⟩; have HF4 := hide (HF3.out.tr hf); rw [HAbl.out] at hown; obtain ⟨A4, c4, rfl, z1, z2, _⟩ := hown.form; have HA4 := hide hown.rd; have HS4 := hide (HS3.out.fr0 hf); unfold maxLen at z2; clear hown hf))
                    try rw [em]
                    try rw [ez]
                    clear em ez hw0 hw0b d2
                    have hg4 := HF4.out.size
                    obtain ⟨wz, hwz⟩ : ∃ x : World, x = wr := ⟨_, rfl⟩
                    rw [← hwz] at HOw HFr HF4 HG HRt HBB hgw HF0 hg4
                    clear hwz
                    go_loopw [16, 17] (fun x i wx => ∃ q : Nat, q ≤ K ∧ i = .int .i64 q ∧ Hid (Own wx w4.heap.size 2 1 x q (iz .i64 (ys.take q))) ∧ Hid (Fr No w4 wx)) (fun _ i _ => K - (intOf i).toNat)
                    case atStart => exact ⟨0, by omega, rfl, hide (Own.nil _ _ _ _), hide (Fr.refl _ _)⟩
                    case round =>
                      obtain ⟨q, hq, rfl, HOx, HFx⟩ := hrel
                      by_cases hqK : q < K
                      · obtain ⟨ad4, rfl, _, hcx⟩ := (HA4.out.fr0 HFx.out).natAt (j := q) (by rw [HAbl.out]; exact hqK)
                        have hx64 := H64.out.at q
                        have HS := hide (HStep.out q hqK)
                        generalize ab.getD q 0 = x at hcx hx64 HS
                        obtain ⟨y, hy⟩ : ∃ y, y = wrap64 (le + (x : Int)) := ⟨_, rfl⟩
                        have hyv : wrap64 (IntKind.u64.wrap (IntKind.u64.wrap le + (x : Int))) = y := by
                          rw [hy, IntKind.wrap_u64, IntKind.wrap_u64]
                          unfold wrap64
                          omega
                        rw [← hy] at HS
                        clear hy
                        have hgx := HFx.out.size
                        have HSr := hide (Src.one (P := Tryz.prog) wr (e := 2) Tryz.underlying41 (.int .i64 y) rfl)
                        have HOx' := hide (HOx.out.fr0 ((Fr.refl No wr).alloc (.cells #[.int .i64 y] 2)))
                        have b1 : (q + 1) * 8 ≤ 140737488355328 := by omega
                        have b2 : q + 1 ≤ maxLen := by unfold maxLen; omega
                        have b3 : w4.heap.size ≤ (wr.alloc (.cells #[.int .i64 y] 2)).heap.size := by simp; omega
                        go_wp2_with (first
                          | (at_builtin; refine wpList_append_gen _ rfl (.tmp 88) (.tmp 97) 41 41 rfl w4.heap.size 2 i0 (.int .i64 0) 1 8 Tryz.underlying41 hi0 iz0 isz iby rfl u16 q (iz .i64 (ys.take q)) rfl HOx'.out _ 1 [.int .i64 y] rfl HSr.out b1 b2 b3 ?_; intro v5 w5 hown hfr hat; have HF5 : Hid (Fr No w4 w5) := hide ((HFx.out.alloc _).own hfr (fun g hg => .inl (HOx.out.lt g hg).1)); have HO5 : Hid (Own w5 w4.heap.size 2 1 v5 (q + 1) (iz .i64 (ys.take (q + 1)))) := hide (by rw [← HS.out]; exact hown); clear hown hfr hat))
                        go_roundw
                        case rel => exact ⟨q + 1, by omega, by go_num, HO5, HF5⟩
                        case measure => simp [intOf]; omega
                      · obtain rfl : q = K := by omega
                        have hox := HOx.out
                        rw [List.take_of_length_le (by rw [HYl.out]; exact Nat.le_refl _)] at hox
                        obtain ⟨A5, c5, rfl, y1, y2, _⟩ := hox.form
                        have HOX := hide hox
                        have HOne := hide (refOne_any A5 q c5 wr.heap.size ys wr HYl.out (by omega) HYi.out y1 y2 (by omega) (Nat.le_refl _) hox.rd)
                        have HSx := hide (show RS wr B G t M 0 by rw [HMM.out]; exact HS4.out.fr0 HFx.out)
                        have HFz := hide (HF4.out.tr HFx.out)
                        have hol := oneB_le HYi.out
                        rw [HYl.out] at hol
                        obtain ⟨fo, hfo⟩ : ∃ x, x = oneB ys := ⟨_, rfl⟩
                        rw [← hfo] at HOne hol HRO
                        obtain ⟨fl, hfl⟩ : ∃ x, x = fo.length := ⟨_, rfl⟩
                        rw [← hfl] at hol
                        have HFl := hide hfl
                        unfold maxLen at y2
                        clear hfo hfl hox hqK
                        have hMt : M ≤ t.length := hsh
                        by_cases hfm : fl = M
                        · subst hfm
                          have hb0 : ((fl : Int) != (fl : Int)) = false := by simp
                          go_wp2_with (first
                            | (go_at_call 119; refine HOne.out.mono ?_; rintro en1 w5 ⟨v6, rfl, hown, hf⟩; rw [← HFl.out] at hown; obtain ⟨A6, c6, rfl, x1, x2, _⟩ := hown.form; have HO6 := hide hown; have HF5 := hide (HFz.out.tr hf); have HS5 := hide (HSx.out.fr0 hf); have HX5 := hide (HOX.out.fr0 hf); obtain ⟨_, _, ⟨_, d1, _⟩, _⟩ := HS5.out.parts; unfold maxLen at x2; clear hown hf))
                          go_loopw [19] (fun i wx => ∃ p nq : Nat, p ≤ fl ∧ i = .int .i64 p ∧ wx = w5.drewN nq ∧ Hid (fo.take p = t.take p)) (fun i _ => fl - (intOf i).toNat)
                          case atStart => exact ⟨0, 0, by omega, rfl, rfl, hide rfl⟩
                          case round =>
                            obtain ⟨p, nq, hp, rfl, rfl, HEq⟩ := hrel
                            by_cases hpl : p < fl
                            · have h1 : p < fo.length := by rw [← HFl.out]; exact hpl
                              have h2 : p < t.length := by omega
                              obtain ⟨ad6, rfl, _, hc6⟩ := (HO6.out.rd).byte h1
                              obtain ⟨zz', hzz⟩ : ∃ x, x = a + p := ⟨_, rfl⟩
                              have hzi : (a : Int) + (p : Int) = (zz' : Int) := by omega
                              have hzm : zz' < m := by omega
                              obtain ⟨adb, rfl, _, hcb⟩ := (HR.out.fr0 (HFr.out.tr HF5.out)).byte (k := zz') (by rw [HL.out]; exact hzm)
                              have hbt : b.getD zz' 0 = t.getD p 0 := by rw [HTd.out, hzz, List.getD_eq_getElem?_getD, List.getD_eq_getElem?_getD, List.getElem?_drop]
                              rw [hbt] at hcb
                              have HE := hide (fun he => take_succ_eq h1 h2 HEq.out he)
                              have HNe := hide (show fo.getD p 0 ≠ t.getD p 0 → fo ≠ t.take fl from fun h e => h (by
                                have h3 := congrArg (fun l => l.getD p 0) e
                                rw [h3]
                                simp [List.getElem?_take, hpl]))
                              generalize fo.getD p 0 = x at hc6 HE HNe
                              generalize t.getD p 0 = y at hcb HE HNe
                              clear h1 h2 hbt hzz
                              by_cases hxy : x = y
                              · subst hxy
                                have HE' := hide (HE.out rfl)
                                have hb2 : ((x.toNat : Int) != x.toNat) = false := by simp
                                clear HE HNe
                                go_wp2
                                go_quiet (fail)
                                go_wp2
                                go_roundw
                                case rel => exact ⟨p + 1, _, by omega, by go_num, rfl, HE'⟩
                                case measure => simp [intOf]; omega
                              · have hb2 : ((x.toNat : Int) != y.toNat) = true := by
                                  simp
                                  intro h
                                  exact hxy (UInt8.toNat_inj.1 (by omega))
                                have HN := hide (b_bad HP.out (fun hok => HNe.out hxy (HRO.out.2 hok)))
                                clear HE HNe hxy
                                go_wp2
                                go_quiet (fail)
                                go_wp2
                                go_ret3
                                exact HBB.out _ _ rfl ((HF5.out.drewN _).drewN _) HN
                            · obtain rfl : p = fl := by omega
                              have hoe : fo = t.take p := by
                                have h := HEq.out
                                rwa [List.take_of_length_le (Nat.le_of_eq HFl.out.symm)] at h
                              have hok := HRO.out.1 hoe
                              have hbk : blkB t q = some (ys, p) := by
                                rw [b_some HP.out hok, HYs.out]
                                congr 2
                                apply List.map_congr_left
                                intro x hx
                                have := hok.2.2 x hx
                                rw [IntWalk.wrap64_in _ (by omega)]
                              have hms : Mid b N (xs ++ ys) (a + p) := by
                                have hk : q = min (N - xs.length) 128 := by rw [HX.out, ← HD.out, HKd.out]
                                rw [hk, HTd.out] at hbk
                                exact (HMid.out.step (by rw [HX.out]; exact hlt) hbk).1
                              have HMs := hide hms
                              have hxl := hide (HYl.out)
                              have HO0 := hide ((HOw.out.fr0 (HF5.out)).fr0 ((Fr.refl No w5).drewN nq))
                              have HSr := hide (Src.ofRd (P := Tryz.prog) (size := 1) (w5.drewN nq) Tryz.underlying41 A5 q c5 (iz .i64 ys) (by rw [iz_len, HYl.out]; omega) (by omega) (HX5.out.rd.fr0 ((Fr.refl No w5).drewN nq)) (iz_one _ _))
                              have HFw := hide (HF5.out.drewN nq)
                              have b1 : (X + q) * 8 ≤ 140737488355328 := by omega
                              have b2 : X + q ≤ maxLen := by unfold maxLen; omega
                              have b3 : w.heap.size ≤ (w5.drewN nq).heap.size := by have := HFw.out.size; omega
                              have d1' : (w5.drewN nq).cell? ⟨G, 1, none⟩ = some (.int .i64 (p : Nat)) := d1
                              clear hoe hok hbk hms
                              go_wp2_with (first
                                | (at_builtin; refine wpList_append_gen _ rfl (.tmp 125) (.tmp 126) 41 41 rfl w.heap.size 2 i0 (.int .i64 0) 1 8 Tryz.underlying41 hi0 iz0 isz iby rfl (.slice Al X cl) X (iz .i64 xs) rfl HO0.out _ q (iz .i64 ys) rfl HSr.out b1 b2 b3 ?_; intro v7 w7 hown hfr hat; have HF7 : Hid (Fr No w w7) := hide ((HFr.out.tr HFw.out).own hfr (fun g hg => .inl (HOw.out.lt g hg).1)); have HO7 : Hid (Own w7 w.heap.size 2 1 v7 (X + q) (iz .i64 (xs ++ ys))) := hide (by rw [iz_append]; exact hown); have d7 : w7.cell? ⟨G, 1, none⟩ = some (.int .i64 (p : Nat)) := hfr.cell (p := ⟨G, 1, none⟩) d1' (fun e => by have h2 : G < wz.heap.size := (HOw.out.lt G e).2; have := HG.out; omega); clear hown hfr hat))
                              go_roundg (gk - q)
                              case measure => omega
                              case rel => exact ⟨xs ++ ys, X + q, a + p, by omega, hide (by rw [List.length_append, HX.out, hxl.out]), by go_num, by omega, HMs, HO7, HF7⟩
                        · have hb0 : ((fl : Int) != (M : Int)) = true := by simp; omega
                          have HN := hide (b_bad HP.out (fun hok => by
                            have h := congrArg List.length (HRO.out.2 hok)
                            rw [List.length_take, ← HFl.out] at h
                            omega))
                          clear hfm
                          go_wp2_with (first
                            | (go_at_call 119; refine HOne.out.mono ?_; rintro en1 w5 ⟨v6, rfl, hown, hf⟩; rw [← HFl.out] at hown; obtain ⟨A6, c6, rfl, x1, x2, _⟩ := hown.form; have HF5 := hide (HFz.out.tr hf); have HS5 := hide (HSx.out.fr0 hf); obtain ⟨_, _, ⟨_, d1, _⟩, _⟩ := HS5.out.parts; unfold maxLen at x2; clear hown hf))
                          go_ret3
                          exact HBB.out _ _ rfl HF5.out HN
                  · have HN := hide (b_none (p_left HDec.out hjt (by rw [← hwb]; exact hw64) (by rw [← hwb, ← hsz]; exact hsh) (by rw [← hwb, ← hsz, ← hpb, ← hwkk]; exact hlf) : parseB t K = none))
                    have hU : unbitsZ pb (wb : Nat) (K : Nat) = ([], 20) := by
                      unfold unbitsZ
                      rw [if_neg (by omega), Int.toNat_natCast, Int.toNat_natCast, if_pos (.inr (by rw [← hwkk]; exact hlf))]
                    have HU := hide hU
                    have HWB := hide hwb
                    have HPB := hide hpb
                    clear hsz hwkk hpb hpl hlf hU hj hwb
                    go_wp2_with (first
                      | (rw [em])
                      | (rw [ez])
                      | (go_at_call 117; refine HI1.out.mono ?_; clear HI1; rintro en1 w1 ⟨rfl, hs, hf⟩; have HS1 := hide hs; have HF1 := hide (HF0.out.own1 hf (Nat.le_of_eq HG.out.symm)); have HB1 := hide (refB_any B G t j 0 1 w1 HS1.out); rw [show (1 : Int) = ((1 : Nat) : Int) from rfl, bS_ok (k := 1) (by omega), un_one hjt] at HB1; clear hs hf)
                      | (go_at_call 86; refine HB2.out.mono ?_; clear HB2; rintro en1 w3 ⟨v3, rfl, hown, hs, hf⟩; have HO3 := hide hown; have HS3 := hide hs; have HF3 := hide (HF2.out.own1 hf (Nat.le_of_eq HG.out.symm)); rw [HPl.out] at hown; obtain ⟨A3, c3, rfl, s1, s2, _⟩ := hown.form; have HUn := hide (refUnb_any A3 sz c3 w3.heap.size (wb : Nat) (K : Nat) pb w3 HPl.out s1 s2 (Nat.le_refl _) hown.rd); rw [HU.out] at HUn; unfold maxLen at s2; have hw0b : w3.cell? ⟨g2, 0, none⟩ = some (.int .u8 (wb : Nat)) := hf.cell (p := ⟨g2, 0, none⟩) hw0 (fun e => by have e : g2 = G := e; have := HF1.out.size; have := HS1.out.lt; omega); obtain ⟨_, _, ⟨d0, d1, d2⟩, _⟩ := hs.parts; clear hown hs hf d0 d1)
                      | (go_at_call 86; refine HB1.out.mono ?_; clear HB1; rintro en1 w2 ⟨v2, rfl, hown, hs, hf⟩; have HO2 := hide hown; have HS2 := hide hs; have HF2 := hide (HF1.out.own1 hf (Nat.le_of_eq HG.out.symm)); have hwb := HWB.out; rw [show ([t.getD j 0] : List UInt8).length = 1 from rfl] at hown; obtain ⟨g2, c2, rfl, r1, r2, r3, r4⟩ := own_some hown (by omega); unfold maxLen at r2; have hw0 : w2.cell? ⟨g2, 0, none⟩ = some (.int .u8 (wb : Nat)) := (by obtain ⟨z1, _⟩ := hown.put (k := 0) (by omega); rw [z1]; simp [by8, hwb]); clear hwb; have HB2 := hide (refB_any B G t (j + 1) 0 (sz : Nat) w2 hs); rw [bS_ok hsh, ← HPB.out] at HB2; obtain ⟨_, _, ⟨d0, d1, d2⟩, _⟩ := hs.parts; clear hown hs hf d0 d1)
                      | (go_at_call 118; refine HUn.out.mono ?_; rintro en1 w4 ⟨v4, rfl, hown, hf⟩; have HF4 := hide (HF3.out.tr hf); obtain ⟨A4, c4, rfl, _⟩ := hown.form; clear hown hf))
                    go_ret3
                    exact HBB.out _ _ rfl HF4.out HN
                · have HN := hide (b_none (p_short HDec.out hjt (by rw [← hwb]; exact hw64) (by rw [← hwb, ← hsz]; exact hsh) : parseB t K = none))
                  have HWB := hide hwb
                  have HSh := hide hsh
                  clear hsz hwkk hsh hj hwb
                  go_wp2_with (first
                    | (rw [em])
                    | (rw [ez])
                    | (go_at_call 117; refine HI1.out.mono ?_; clear HI1; rintro en1 w1 ⟨rfl, hs, hf⟩; have HS1 := hide hs; have HF1 := hide (HF0.out.own1 hf (Nat.le_of_eq HG.out.symm)); have HB1 := hide (refB_any B G t j 0 1 w1 HS1.out); rw [show (1 : Int) = ((1 : Nat) : Int) from rfl, bS_ok (k := 1) (by omega), un_one hjt] at HB1; clear hs hf)
                    | (go_at_call 86; refine HB2.out.mono ?_; clear HB2; rintro en1 w3 ⟨v3, rfl, hown, hs, hf⟩; have HO3 := hide hown; have HS3 := hide hs; have HF3 := hide (HF2.out.own1 hf (Nat.le_of_eq HG.out.symm)); obtain ⟨A3, c3, rfl, _⟩ := hown.form; obtain ⟨_, _, ⟨d0, d1, d2⟩, _⟩ := hs.parts; clear hown hs hf d0 d1)
                    | (go_at_call 86; refine HB1.out.mono ?_; clear HB1; rintro en1 w2 ⟨v2, rfl, hown, hs, hf⟩; have HO2 := hide hown; have HS2 := hide hs; have HF2 := hide (HF1.out.own1 hf (Nat.le_of_eq HG.out.symm)); have hwb := HWB.out; rw [show ([t.getD j 0] : List UInt8).length = 1 from rfl] at hown; obtain ⟨g2, c2, rfl, r1, r2, r3, r4⟩ := own_some hown (by omega); unfold maxLen at r2; have hw0 : w2.cell? ⟨g2, 0, none⟩ = some (.int .u8 (wb : Nat)) := (by obtain ⟨z1, _⟩ := hown.put (k := 0) (by omega); rw [z1]; simp [by8, hwb]); clear hwb; have HB2 := hide (refB_any B G t (j + 1) 0 (sz : Nat) w2 hs); rw [bS_bad (by omega) HSh.out] at HB2; obtain ⟨_, _, ⟨d0, d1, d2⟩, _⟩ := hs.parts; clear hown hs hf d0 d1))
                  go_ret3
                  exact HBB.out _ _ rfl HF3.out HN
              · have HN := hide (b_none (p_wide HDec.out hjt (by rw [← hwb]; exact hw64) : parseB t K = none))
                have HWB := hide hwb
                have hw65 : 64 < wb := by omega
                clear hwb hw64 hj
                go_wp2_with (first
                  | (go_at_call 117; refine HI1.out.mono ?_; clear HI1; rintro en1 w1 ⟨rfl, hs, hf⟩; have HS1 := hide hs; have HF1 := hide (HF0.out.own1 hf (Nat.le_of_eq HG.out.symm)); have HB1 := hide (refB_any B G t j 0 1 w1 HS1.out); rw [show (1 : Int) = ((1 : Nat) : Int) from rfl, bS_ok (k := 1) (by omega), un_one hjt] at HB1; clear hs hf)
                  | (go_at_call 86; refine HB1.out.mono ?_; clear HB1; rintro en1 w2 ⟨v2, rfl, hown, hs, hf⟩; have HO2 := hide hown; have HS2 := hide hs; have HF2 := hide (HF1.out.own1 hf (Nat.le_of_eq HG.out.symm)); have hwb := HWB.out; rw [show ([t.getD j 0] : List UInt8).length = 1 from rfl] at hown; obtain ⟨g2, c2, rfl, r1, r2, r3, r4⟩ := own_some hown (by omega); unfold maxLen at r2; have hw0 : w2.cell? ⟨g2, 0, none⟩ = some (.int .u8 (wb : Nat)) := (by obtain ⟨z1, _⟩ := hown.put (k := 0) (by omega); rw [z1]; simp [by8, hwb]); clear hwb; obtain ⟨_, _, ⟨d0, d1, d2⟩, _⟩ := hs.parts; clear hown hs hf d0 d1))
                go_ret3
                exact HBB.out _ _ rfl HF2.out HN
            · have HN := hide (b_none (p_end HDec.out hjt : parseB t K = none))
              go_wp2_with (first
                | (go_at_call 117; refine HI1.out.mono ?_; clear HI1; rintro en1 w1 ⟨rfl, hs, hf⟩; have HS1 := hide hs; have HF1 := hide (HF0.out.own1 hf (Nat.le_of_eq HG.out.symm)); have HB1 := hide (refB_any B G t j 0 1 w1 HS1.out); rw [show (1 : Int) = ((1 : Nat) : Int) from rfl, bS_bad (k := 1) (by omega) (by omega)] at HB1; clear hs hf)
                | (go_at_call 86; refine HB1.out.mono ?_; clear HB1; rintro en1 w2 ⟨v2, rfl, hown, hs, hf⟩; have HO2 := hide hown; have HS2 := hide hs; have HF2 := hide (HF1.out.own1 hf (Nat.le_of_eq HG.out.symm)); obtain ⟨A2, c2, rfl, _⟩ := hown.form; obtain ⟨_, _, ⟨d0, d1, d2⟩, _⟩ := hs.parts; clear hown hs hf d0 d1))
              go_ret3
              exact HBB.out _ _ rfl HF2.out HN
    · obtain rfl : X = N := by have := HMid.out.1; rw [HX.out] at this; omega
      have HD := hide (HMid.out.done HX.out hN)
      clear hlt
      go_wp2
      go_ret3
      refine ⟨.slice Al X cl, ?_, ?_, HFr.out⟩
      · rw [HRes.out, HD.out]
        rfl
      · rw [HRes.out, HD.out, HX.out]
        exact HOw.out
theorem refGet_any (A : Option Addr) (m c B : Nat) (ni : Int) (b : List UInt8) (w : World) (hl : b.length = m) (hm : m ≤ 140737488355328) (hn : m ≤ c) (hc : c ≤ maxLen) (hB : B ≤ w.heap.size) (hr : Rd w B A (by8 b)) :
    Calls Tryz.prog 87 #[.slice A m c, .int .i64 ni] w (GivesGet (getZ b ni) w) := by
  by_cases h : ni < 0 ∨ 1048576 < ni
  · rw [getZ_arg b h]
    exact (refGet_arg A m c ni w h).mono fun e w' ⟨h1, h2⟩ => ⟨_, h1, Own.nil _ _ _ _, h2 ▸ Fr.refl _ _⟩
  · obtain ⟨N, rfl⟩ := Int.eq_ofNat_of_zero_le (a := ni) (by omega)
    exact refGet_in A m c B N b w hl hm hn hc (by omega) hB hr
end Go.Proofs.YtnjcncidlhllmaaGreat
namespace Go.Proofs.YtnjcncidlhllmaaGreat
set_option linter.unusedVariables false
set_option linter.unusedSimpArgs false
open Go.RowKit

set_option maxRecDepth 100000 in
set_option maxHeartbeats 800000 in
theorem refN_bad1 (B g : Nat) (bs : List UInt8) (a : Nat) (w : World) (most : Int) (h : RS w B g bs a 0) (hd : dec 0 0 (bs.drop a) = none) :
    Calls Tryz.prog 63 #[.pointer (some ⟨g, 0, none⟩), .int .i64 most] w (RSRet (.int .i64 0) w B g bs a 20) := by
  obtain ⟨A, c, ⟨c0, c1, c2⟩, hf, h1, h2, h3, h4, hr, hB⟩ := h.parts
  have HN := hide (refnum_cut hr h1 h2 h3 hB hd)
  simp only [numW] at HN
  have H := hide h
  have HA := hide hr
  clear h hr hd
  by_cases hca : c = a
  · have HN1 := HN.out
    rw [if_pos hca, hca, Nat.sub_self] at HN1
    have HN2 := hide HN1
    clear HN HN1
    go_enter Tryz.func63, Tryz.ntmps63
    go_wp2_with (fail)
    go_region_with (go_at_call 90; refine (HN2.out w.drew rfl).mono ?_; rintro en w1 ⟨rfl, hfr⟩; have HF : Hid (Fr No w w1) := ⟨hfr.os, hfr.tape, hfr.output, hfr.size, hfr.block⟩; clear hfr; have HR1 := hide (H.out.fr0 HF.out); obtain ⟨A1, k1, ⟨e0, e1, e2⟩, hf1, q1, q2, _, _, _⟩ := HR1.out.parts)
    all_goals (try go_wp2)
    all_goals go_ret
    all_goals exact ⟨rfl, HR1.out.set2 20, (HF.out.any (Is g)).put _ _⟩
  · have HN1 := HN.out
    rw [if_neg hca] at HN1
    have HN2 := hide HN1
    clear HN HN1
    go_enter Tryz.func63, Tryz.ntmps63
    go_wp2_with (fail)
    go_region_with (go_at_call 90; refine (HN2.out w.drew rfl).mono ?_; rintro en w1 ⟨rfl, hfr⟩; have HF : Hid (Fr No w w1) := ⟨hfr.os, hfr.tape, hfr.output, hfr.size, hfr.block⟩; clear hfr; have HR1 := hide (H.out.fr0 HF.out); obtain ⟨A1, k1, ⟨e0, e1, e2⟩, hf1, q1, q2, _, _, _⟩ := HR1.out.parts)
    all_goals (try go_wp2)
    all_goals go_ret
    all_goals exact ⟨rfl, HR1.out.set2 20, (HF.out.any (Is g)).put _ _⟩

set_option maxRecDepth 100000 in
set_option maxHeartbeats 800000 in
theorem refN_bad2 (B g : Nat) (bs : List UInt8) (a : Nat) (w : World) (most : Int) (u k : Nat) (h : RS w B g bs a 0) (hd : dec 0 0 (bs.drop a) = some (u, k)) (hneg : most < 0) :
    Calls Tryz.prog 63 #[.pointer (some ⟨g, 0, none⟩), .int .i64 most] w (RSRet (.int .i64 0) w B g bs a 20) := by
  obtain ⟨A, c, ⟨c0, c1, c2⟩, hf, h1, h2, h3, h4, hr, hB⟩ := h.parts
  have HN := hide (refnum_cut hr h1 h2 h3 hB hd)
  simp only [numW] at HN
  have H := hide h
  have HA := hide hr
  have hk := dec_le _ _ _ _ _ hd
  have hk1 : a + k ≤ bs.length := by have := hk.2; simp at this; omega
  have hk0 : ((k : Int) == 0) = false := by have := hk.1; simp; omega
  have hu := dec_lt _ 0 0 u k (by decide) hd
  clear hk
  clear h hr hd
  by_cases hca : c = a
  · have HN1 := HN.out
    rw [if_pos hca, hca, Nat.sub_self] at HN1
    have HN2 := hide HN1
    clear HN HN1
    go_enter Tryz.func63, Tryz.ntmps63
    go_wp2_with (fail)
    go_region_with (go_at_call 90; refine (HN2.out w.drew rfl).mono ?_; rintro en w1 ⟨rfl, hfr⟩; have HF : Hid (Fr No w w1) := ⟨hfr.os, hfr.tape, hfr.output, hfr.size, hfr.block⟩; clear hfr; have HR1 := hide (H.out.fr0 HF.out); obtain ⟨A1, k1, ⟨e0, e1, e2⟩, hf1, q1, q2, _, _, _⟩ := HR1.out.parts)
    all_goals (try go_wp2)
    all_goals go_ret
    all_goals exact ⟨rfl, HR1.out.set2 20, (HF.out.any (Is g)).put _ _⟩
  · have HN1 := HN.out
    rw [if_neg hca] at HN1
    have HN2 := hide HN1
    clear HN HN1
    go_enter Tryz.func63, Tryz.ntmps63
    go_wp2_with (fail)
    go_region_with (go_at_call 90; refine (HN2.out w.drew rfl).mono ?_; rintro en w1 ⟨rfl, hfr⟩; have HF : Hid (Fr No w w1) := ⟨hfr.os, hfr.tape, hfr.output, hfr.size, hfr.block⟩; clear hfr; have HR1 := hide (H.out.fr0 HF.out); obtain ⟨A1, k1, ⟨e0, e1, e2⟩, hf1, q1, q2, _, _, _⟩ := HR1.out.parts)
    all_goals (try go_wp2)
    all_goals go_ret
    all_goals exact ⟨rfl, HR1.out.set2 20, (HF.out.any (Is g)).put _ _⟩

set_option maxRecDepth 100000 in
set_option maxHeartbeats 800000 in
theorem refN_bad3 (B g : Nat) (bs : List UInt8) (a : Nat) (w : World) (m : Nat) (u k : Nat) (h : RS w B g bs a 0) (hd : dec 0 0 (bs.drop a) = some (u, k)) (hm2 : (m : Int) ≤ 9223372036854775807) (hbig : m < u) :
    Calls Tryz.prog 63 #[.pointer (some ⟨g, 0, none⟩), .int .i64 m] w (RSRet (.int .i64 0) w B g bs a 20) := by
  obtain ⟨A, c, ⟨c0, c1, c2⟩, hf, h1, h2, h3, h4, hr, hB⟩ := h.parts
  have HN := hide (refnum_cut hr h1 h2 h3 hB hd)
  simp only [numW] at HN
  have H := hide h
  have HA := hide hr
  have hk := dec_le _ _ _ _ _ hd
  have hk1 : a + k ≤ bs.length := by have := hk.2; simp at this; omega
  have hk0 : ((k : Int) == 0) = false := by have := hk.1; simp; omega
  have hu := dec_lt _ 0 0 u k (by decide) hd
  clear hk
  clear h hr hd
  by_cases hca : c = a
  · have HN1 := HN.out
    rw [if_pos hca, hca, Nat.sub_self] at HN1
    have HN2 := hide HN1
    clear HN HN1
    go_enter Tryz.func63, Tryz.ntmps63
    go_wp2_with (fail)
    go_region_with (go_at_call 90; refine (HN2.out w.drew rfl).mono ?_; rintro en w1 ⟨rfl, hfr⟩; have HF : Hid (Fr No w w1) := ⟨hfr.os, hfr.tape, hfr.output, hfr.size, hfr.block⟩; clear hfr; have HR1 := hide (H.out.fr0 HF.out); obtain ⟨A1, k1, ⟨e0, e1, e2⟩, hf1, q1, q2, _, _, _⟩ := HR1.out.parts)
    all_goals (try go_wp2)
    all_goals go_ret
    all_goals exact ⟨rfl, HR1.out.set2 20, (HF.out.any (Is g)).put _ _⟩
  · have HN1 := HN.out
    rw [if_neg hca] at HN1
    have HN2 := hide HN1
    clear HN HN1
    go_enter Tryz.func63, Tryz.ntmps63
    go_wp2_with (fail)
    go_region_with (go_at_call 90; refine (HN2.out w.drew rfl).mono ?_; rintro en w1 ⟨rfl, hfr⟩; have HF : Hid (Fr No w w1) := ⟨hfr.os, hfr.tape, hfr.output, hfr.size, hfr.block⟩; clear hfr; have HR1 := hide (H.out.fr0 HF.out); obtain ⟨A1, k1, ⟨e0, e1, e2⟩, hf1, q1, q2, _, _, _⟩ := HR1.out.parts)
    all_goals (try go_wp2)
    all_goals go_ret
    all_goals exact ⟨rfl, HR1.out.set2 20, (HF.out.any (Is g)).put _ _⟩

set_option maxRecDepth 100000 in
set_option maxHeartbeats 800000 in
theorem refN_ok (B g : Nat) (bs : List UInt8) (a : Nat) (w : World) (m : Nat) (u k : Nat) (h : RS w B g bs a 0) (hd : dec 0 0 (bs.drop a) = some (u, k)) (hm2 : (m : Int) ≤ 9223372036854775807) (hfit : u ≤ m) :
    Calls Tryz.prog 63 #[.pointer (some ⟨g, 0, none⟩), .int .i64 m] w (RSRet (.int .i64 u) w B g bs (a + k) 0) := by
  obtain ⟨A, c, ⟨c0, c1, c2⟩, hf, h1, h2, h3, h4, hr, hB⟩ := h.parts
  have HN := hide (refnum_cut hr h1 h2 h3 hB hd)
  simp only [numW] at HN
  have H := hide h
  have HA := hide hr
  have hk := dec_le _ _ _ _ _ hd
  have hk1 : a + k ≤ bs.length := by have := hk.2; simp at this; omega
  have hk0 : ((k : Int) == 0) = false := by have := hk.1; simp; omega
  have hu := dec_lt _ 0 0 u k (by decide) hd
  clear hk
  clear h hr hd
  by_cases hca : c = a
  · have HN1 := HN.out
    rw [if_pos hca, hca, Nat.sub_self] at HN1
    have HN2 := hide HN1
    clear HN HN1
    go_enter Tryz.func63, Tryz.ntmps63
    go_wp2_with (fail)
    go_region_with (go_at_call 90; refine (HN2.out w.drew rfl).mono ?_; rintro en w1 ⟨rfl, hfr⟩; have HF : Hid (Fr No w w1) := ⟨hfr.os, hfr.tape, hfr.output, hfr.size, hfr.block⟩; clear hfr; have HR1 := hide (H.out.fr0 HF.out); obtain ⟨A1, k1, ⟨e0, e1, e2⟩, hf1, q1, q2, _, _, _⟩ := HR1.out.parts)
    all_goals (try go_wp2)
    all_goals go_ret
    all_goals exact ⟨by simp, HR1.out.set1 _ hk1, (HF.out.any (Is g)).put _ _⟩
  · have HN1 := HN.out
    rw [if_neg hca] at HN1
    have HN2 := hide HN1
    clear HN HN1
    go_enter Tryz.func63, Tryz.ntmps63
    go_wp2_with (fail)
    go_region_with (go_at_call 90; refine (HN2.out w.drew rfl).mono ?_; rintro en w1 ⟨rfl, hfr⟩; have HF : Hid (Fr No w w1) := ⟨hfr.os, hfr.tape, hfr.output, hfr.size, hfr.block⟩; clear hfr; have HR1 := hide (H.out.fr0 HF.out); obtain ⟨A1, k1, ⟨e0, e1, e2⟩, hf1, q1, q2, _, _, _⟩ := HR1.out.parts)
    all_goals (try go_wp2)
    all_goals go_ret
    all_goals exact ⟨by simp, HR1.out.set1 _ hk1, (HF.out.any (Is g)).put _ _⟩

set_option maxRecDepth 100000 in
set_option maxHeartbeats 800000 in
theorem refN_off (B g : Nat) (bs : List UInt8) (a : Nat) (e : Int) (w : World) (most : Int) (h : RS w B g bs a e) (he : e ≠ 0) :
    Calls Tryz.prog 63 #[.pointer (some ⟨g, 0, none⟩), .int .i64 most] w (RSRet (.int .i64 0) w B g bs a e) := by
  obtain ⟨A, c, ⟨c0, c1, c2⟩, hf, h1, h2, h3, h4, hr, hB⟩ := h.parts
  have hb : (e != 0) = true := by simpa using he
  have H := hide h
  clear h hr he
  go_enter Tryz.func63, Tryz.ntmps63
  go_wp2_with (fail)
  go_ret
  exact ⟨rfl, H.out, Fr.refl _ _⟩

set_option maxRecDepth 100000 in
set_option maxHeartbeats 800000 in
theorem refN_nil (w : World) (most : Int) :
    Calls Tryz.prog 63 #[.pointer none, .int .i64 most] w (Ret (.int .i64 0) w) := by
  go_enter Tryz.func63, Tryz.ntmps63
  go_wp2_with (fail)
  go_ret
  exact ⟨rfl, rfl⟩

theorem refN_any (B g : Nat) (bs : List UInt8) (a : Nat) (e most : Int) (w : World) (h : RS w B g bs a e) (hm2 : most ≤ 9223372036854775807) :
    Calls Tryz.prog 63 #[.pointer (some ⟨g, 0, none⟩), .int .i64 most] w (RSRet (.int .i64 (sizeS bs a e most).1) w B g bs (sizeS bs a e most).2.1 (sizeS bs a e most).2.2) := by
  unfold sizeS
  by_cases he : e = 0
  · subst he
    rw [if_pos rfl]
    cases hd : dec 0 0 (bs.drop a) with
    | none => rw [sizeR_none hd]; exact refN_bad1 B g bs a w most h hd
    | some x =>
      by_cases hneg : most < 0
      · rw [sizeR_no hd (.inl hneg)]; exact refN_bad2 B g bs a w most x.1 x.2 h hd hneg
      · obtain ⟨m, rfl⟩ := Int.eq_ofNat_of_zero_le (a := most) (by omega)
        by_cases hum : m < x.1
        · rw [sizeR_no hd (.inr (by omega))]; exact refN_bad3 B g bs a w m x.1 x.2 h hd hm2 hum
        · rw [sizeR_ok hd (by omega)]; exact refN_ok B g bs a w m x.1 x.2 h hd hm2 (by omega)
  · rw [if_neg he]
    exact refN_off B g bs a e w most h he

end Go.Proofs.YtnjcncidlhllmaaGreat
