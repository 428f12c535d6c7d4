/- PostingsKnown, walked. -/
import Derived.Test.YthlbfnoahdjdeaaK21
namespace Go.Proofs.Ythlbfnoahdjdeaa
set_option linter.unusedVariables false
set_option linter.unusedSimpArgs false
open Go.RowKit

theorem right_one {x : Po} (h1 : -1 < x.1) (h2 : x.1 < 16384) (h3 : x.2 ≠ []) (h4 : x.2.length ≤ 1048576) (h5 : upL x.2) (h6 : ∀ y ∈ x.2, 0 ≤ y ∧ y ≤ 1048576) : rightP [x] := by
  intro i hi
  have hi : i < 1 := hi
  obtain rfl : i = 0 := by omega
  exact ⟨h1, h2, h3, by simpa [sumP] using h4, h5, h6⟩
theorem right_head {x : Po} {r : List Po} (h : rightP (x :: r)) : -1 < x.1 ∧ x.1 < 16384 ∧ x.2 ≠ [] ∧ upL x.2 ∧ ∀ y ∈ x.2, 0 ≤ y ∧ y ≤ 1048576 := by
  have h1 := h 0 (by simp)
  exact ⟨h1.1, h1.2.1, h1.2.2.1, h1.2.2.2.2.1, h1.2.2.2.2.2⟩
def rcP (l : List Po) (r : Int) : Prop := (rightP l ∧ r = 0) ∨ (¬ rightP l ∧ r = 1)

set_option maxRecDepth 100000 in
set_option maxHeartbeats 800000 in
theorem built_any (A : Option Addr) (n c B : Nat) (l : List Po) (r : Int) (w : World) (hl : l.length = n) (hn : n ≤ c) (hc : c ≤ maxLen) (hB : B ≤ w.heap.size) (hr : RdPo w B A l) (hi : InI2 l) (hb : ∀ x ∈ l, x.2.length ≤ 140737488351232) (h : rcP l r) :
    Calls Try.prog 36 #[.slice A n c] w (RetF (.int .i64 r) w) := by
  have HB := hide (pbuild_any A n c B l w hl hn hc hB hr hi hb)
  have HR := hide h
  clear hl hn hc hB hr hi hb h
  go_enter Try.func36, Try.ntmps36
  go_wp2_with (fail)
  refine HB.out.mono ?_
  rintro en w2 ⟨hfr, (⟨hok, A2, m, _, rfl, _⟩ | ⟨hno, rfl⟩)⟩
  · obtain rfl : r = 0 := by
      rcases HR.out with ⟨_, h⟩ | ⟨h, _⟩
      · exact h
      · exact absurd hok h
    have HF := hide hfr
    clear hok hfr
    go_wp2_with (fail)
    go_ret
    exact ⟨rfl, HF.out⟩
  · obtain rfl : r = 1 := by
      rcases HR.out with ⟨h, _⟩ | ⟨_, h⟩
      · exact absurd h hno
      · exact h
    have HF := hide hfr
    clear hno hfr
    go_wp2_with (fail)
    go_ret
    exact ⟨rfl, HF.out⟩
set_option maxRecDepth 100000 in
set_option maxHeartbeats 800000 in
theorem bad10_any (A : Option Addr) (n c : Nat) (bs : List UInt8) (w : World) (hl : bs.length = n) (hn : n ≤ c) (hc : c ≤ maxLen) (hb : n ≤ 140737488355328) (hr : Rd w w.heap.size A (by8 bs)) (h : ∀ l, ¬ FormP bs l) :
    Calls Try.prog 37 #[.slice A n c] w (RetB true w) := by
  have HB := hide (popen_any A n c w.heap.size bs w hl hn hc hb (Nat.le_refl _) hr)
  have HR := hide h
  clear hl hn hc hb hr h
  go_enter Try.func37, Try.ntmps37
  go_wp2_with (fail)
  refine HB.out.mono ?_
  rintro en w2 ⟨hfr, (⟨G, l, hf, _⟩ | ⟨_, rfl⟩)⟩
  · exact absurd hf (HR.out l)
  · have HF := hide hfr
    clear hfr
    go_wp2_with (fail)
    go_ret
    exact ⟨rfl, HF.out⟩
/-- a post in memory of its own. -/
theorem RdPo.one {w : World} {A : Option Addr} {n c : Nat} {d : Int} {p : List Int} (hl : p.length = n) (hn : n ≤ c) (hc : c ≤ maxLen) (hr : Rd w w.heap.size A (iz .i64 p)) : RdPo (w.alloc (.cells #[.int .i64 d, .slice A n c] 58)) (w.heap.size + 1) (some ⟨w.heap.size, 0, none⟩) [(d, p)] := by
  refine ⟨[((d, p), A, c)], rfl, ?_, fun q hq => ?_⟩
  · have h := Rd.block (heap_alloc_new w (.cells #[.int .i64 d, .slice A n c] 58))
    unfold pFlat pRow
    simp only [List.flatMap_cons, List.flatMap_nil, List.append_nil]
    rw [hl]
    exact h
  · rw [List.mem_singleton.1 hq]
    exact ⟨by rw [← hl] at hn; exact hn, hc, (hr.fr0 ((Fr.refl No w).alloc _)).more (Nat.le_succ _)⟩
theorem one_in {d : Int} {p : List Int} (h1 : -9223372036854775808 ≤ d ∧ d ≤ 9223372036854775807) (h2 : InI p) (h3 : p.length ≤ 10) : InI2 [(d, p)] ∧ ∀ x ∈ [((d, p) : Po)], x.2.length ≤ 140737488351232 :=
  ⟨fun x hx => by rw [List.mem_singleton.1 hx]; exact ⟨h2, h1.1, h1.2⟩, fun x hx => by rw [List.mem_singleton.1 hx]; show p.length ≤ _; omega⟩
set_option maxRecDepth 100000 in
theorem built_one (A : Option Addr) (n c : Nat) (d : Int) (p : List Int) (r : Int) (w : World) (hl : p.length = n) (hn : n ≤ c) (hc : c ≤ maxLen) (hr : Rd w w.heap.size A (iz .i64 p)) (h1 : -9223372036854775808 ≤ d ∧ d ≤ 9223372036854775807) (h2 : InI p) (h3 : p.length ≤ 10) (h : rcP [(d, p)] r) :
    Calls Try.prog 36 #[.slice (some ⟨w.heap.size, 0, none⟩) 1 1] (w.alloc (.cells #[.int .i64 d, .slice A n c] 58)) (RetF (.int .i64 r) w) :=
  (built_any _ 1 1 (w.heap.size + 1) _ r _ rfl (Nat.le_refl _) (show 1 ≤ maxLen by unfold maxLen; decide) (by simp) (RdPo.one hl hn hc hr) (one_in h1 h2 h3).1 (one_in h1 h2 h3).2 h).mono fun en w' ⟨h1, h2⟩ => ⟨h1, ((Fr.refl No w).alloc _).tr h2⟩
theorem rd_ints (w : World) (cs : Array Value) (p : List Int) (h : cs.toList = iz .i64 p) : Rd (w.alloc (.cells cs 3)) (w.alloc (.cells cs 3)).heap.size (some ⟨w.heap.size, 0, none⟩) (iz .i64 p) := by
  have h2 := Rd.block (heap_alloc_new w (.cells cs 3))
  rw [h] at h2
  exact h2.more (by simp)
theorem no_up : ¬ upL [3, 2] := fun h => by
  have h1 := h 0 (by decide)
  revert h1
  decide
theorem in_small {p : List Int} (h : ∀ y ∈ p, -10 ≤ y ∧ y ≤ 2000000) : InI p := fun y hy => by have := h y hy; omega
theorem k_two : rcP [(2, [0]), (2, [0])] 1 := .inr ⟨fun h => by
  have h1 := (h 1 (by decide)).1
  revert h1
  decide, rfl⟩
theorem k_nil : rcP [(1, [])] 1 := .inr ⟨fun h => (right_head h).2.2.1 rfl, rfl⟩
theorem k_down : rcP [(1, [3, 2])] 1 := .inr ⟨fun h => no_up (right_head h).2.2.2.1, rfl⟩
theorem k_same : rcP [(1, [3, 3])] 0 := .inl ⟨right_one (by decide) (by decide) (by decide) (by decide) (upL_of2 (by decide)) (by decide), rfl⟩
theorem k_doc : rcP [(16384, [0])] 1 := .inr ⟨fun h => absurd (right_head h).2.1 (by decide), rfl⟩
theorem k_most : rcP [(16383, [1048576])] 0 := .inl ⟨right_one (by decide) (by decide) (by decide) (by decide) (upL_one _) (by decide), rfl⟩
theorem k_more : rcP [(0, [1048577])] 1 := .inr ⟨fun h => absurd ((right_head h).2.2.2.2 1048577 (by decide)).2 (by decide), rfl⟩
theorem k_less : rcP [(0, [-1])] 1 := .inr ⟨fun h => absurd ((right_head h).2.2.2.2 (-1) (by decide)).1 (by decide), rfl⟩
theorem no_form00 : ∀ l, ¬ FormP [0, 0] l := fun l h => by
  obtain ⟨_, h1, _, _, _, h2, _⟩ := po_start (bs := [0, 0]) (n := 0) (a := 1) (e := 0) (by decide) l h
  have h3 : l = [] := List.length_eq_zero_iff.1 h1
  subst h3
  have h4 := h.2
  revert h4
  decide
theorem no_form1 : ∀ l, ¬ FormP [1] l := fun l h => by
  obtain ⟨_, h1, _, _, _, h2, _⟩ := po_start (bs := [1]) (n := 1) (a := 1) (e := 0) (by decide) l h
  rw [tailP_step (by rw [h1]; decide)] at h2
  have h3 := congrArg List.length h2
  have h4 := (enc_len (rowsB (aheadPo l 0) (blkPo l 0)).length).1
  rw [pieceP, List.length_append, List.length_append, List.length_append] at h3
  have h5 : (List.drop 1 ([1] : List UInt8)).length = 0 := rfl
  omega
theorem no_form : ∀ l, ¬ FormP [] l := fun l h => by
  have h2 := congrArg List.length h.2
  have h4 := (enc_len l.length).1
  rw [buildP, List.length_append] at h2
  have h5 : ([] : List UInt8).length = 0 := rfl
  omega

set_option maxRecDepth 100000 in
set_option maxHeartbeats 4000000 in
theorem poknown_any (w : World) : Calls Try.prog 8 #[] w (RetB true w) := by
  go_enter Try.func8, Try.ntmps8
  go_wp2_with (fail)
  refine (pbuild_any none 0 0 0 [] w rfl (Nat.le_refl _) (Nat.zero_le _) (Nat.zero_le _) (RdPo.nil _ _) (fun x hx => nomatch hx) (fun x hx => nomatch hx)).mono ?_
  rintro en w1 ⟨hfr, (⟨_, A1, m, hm, rfl, hO⟩ | ⟨hno, _⟩)⟩
  rotate_left
  · exact absurd rightP_nil hno
  obtain rfl : m = 1 := hm
  obtain ⟨w2, hw2⟩ : ∃ W, W = w1.alloc (.cells #[.int .i64 0] 3) := ⟨_, rfl⟩
  obtain ⟨g1, hg1⟩ : ∃ g, g = w1.heap.size := ⟨_, rfl⟩
  have HF2 : Hid (Fr No w w2) := hide (by rw [hw2]; exact hfr.alloc _)
  have HO2 : Hid (Own w2 w.heap.size 5 1 (.slice A1 1 1) 1 (by8 [0])) := hide (by rw [hw2]; exact hO.fr0 ((Fr.refl No w1).alloc _))
  have HR2 : Hid (Rd w2 w2.heap.size (some ⟨g1, 0, none⟩) (iz .i64 [0])) := hide (by rw [hw2, hg1]; exact rd_ints w1 _ _ rfl)
  have HW2 := hide hw2
  have HG1 := hide hg1
  clear hfr hO hw2 hg1
  go_wp2_with (fail)
  rw [← HW2.out, ← HG1.out]
  refine (newIt_any (.pointer none) ⟨_, rfl⟩ [] w2).mono ?_
  rintro en w3 ⟨X, rfl, hit, hfr⟩
  have HK3 : Hid (WkM w w3 w2.heap.size 0 X (.pointer none) [] .start) := hide ⟨hit, .inl ⟨rfl, rfl⟩, HF2.out.tr hfr, Nat.le_trans HF2.out.size hit.lo⟩
  have HO3 := hide (HO2.out.fr0 hfr)
  have HR3 := hide (HR2.out.fr0 hfr)
  have HS3 := hide hfr.size
  clear hfr hit HF2 HO2 HR2 HW2 HG1
  go_wp2_with (fail)
  refine (form10_any w3).mono ?_
  rintro en w4 ⟨g, rfl, _, hrd, hfr⟩
  have HK4 := hide (HK3.out.fr0 hfr)
  have HO4 := hide (HO3.out.fr0 hfr)
  have HR4 := hide (HR3.out.fr0 hfr)
  have HOp := hide (popen_any (some ⟨g, 0, none⟩) 13 13 w4.heap.size litF10 w4 rfl (Nat.le_refl _) (by unfold maxLen; decide) (by decide) (Nat.le_refl _) hrd)
  have HS4 := hide (Nat.le_trans HS3.out hfr.size)
  clear hfr hrd HK3 HO3 HR3 HS3
  go_wp2_with (fail)
  refine HOp.out.mono ?_
  rintro en w5 ⟨hfr, (⟨G, l, hf, rfl, hl⟩ | ⟨hno, _⟩)⟩
  rotate_left
  · exact absurd form_lit (hno _)
  obtain rfl := buildP_inj hf form_lit
  have HK5 := hide (HK4.out.fr0 hfr)
  have HO5 := hide (HO4.out.fr0 hfr)
  have HR5 := hide (HR4.out.fr0 hfr)
  have HS5 := hide (Nat.le_trans HS4.out hfr.size)
  clear hfr hf hl HOp HK4 HO4 HR4 HS4
  go_wp2_with (fail)
  refine (newIt_any (.pointer (some ⟨G, 0, none⟩)) ⟨_, rfl⟩ litPo w5).mono ?_
  rintro en w6 ⟨Y, rfl, hit, hfr⟩
  have HY6 := hide hit
  have HK6 := hide (HK5.out.fr0 hfr)
  have HO6 := hide (HO5.out.fr0 hfr)
  have HR6 := hide (HR5.out.fr0 hfr)
  have HS6 := hide (Nat.le_trans HS5.out hfr.size)
  clear hfr hit HK5 HO5 HR5 HS5
  have HDy := hide (itDoc_any _ Y _ litPo .start w6 HY6.out)
  rw [show docS litPo .start = -1 from rfl] at HDy
  go_wp2_with (fail)
  refine (HDy.out).mono ?_
  rintro en w7 ⟨he, nq, hq⟩
  subst he
  have hfr : Fr No w6 w7 := by rw [hq]; exact (Fr.refl No w6).drewN nq
  have HK7 := hide (HK6.out.fr0 hfr)
  have HO7 := hide (HO6.out.fr0 hfr)
  have HR7 := hide (HR6.out.fr0 hfr)
  have HS7 := hide (Nat.le_trans HS6.out (hfr).size)
  have HY7 := hide (HY6.out.fr0 hfr)
  clear HK6 HO6 HR6 HS6 HY6
  clear hfr hq
  have HFy := hide (itFreq_any _ Y _ litPo .start w7 HY7.out)
  rw [show (posnS litPo .start).length = 0 from rfl] at HFy
  go_wp2_with (fail)
  refine (HFy.out).mono ?_
  rintro en w8 ⟨he, nq, hq⟩
  subst he
  have hfr : Fr No w7 w8 := by rw [hq]; exact (Fr.refl No w7).drewN nq
  have HK8 := hide (HK7.out.fr0 hfr)
  have HO8 := hide (HO7.out.fr0 hfr)
  have HR8 := hide (HR7.out.fr0 hfr)
  have HS8 := hide (Nat.le_trans HS7.out (hfr).size)
  have HY8 := hide (HY7.out.fr0 hfr)
  clear HK7 HO7 HR7 HS7 HY7
  clear hfr hq
  have HPy := hide (itPos_any _ Y _ litPo .start w8 HY8.out right_lit)
  rw [show posnS litPo .start = [] from rfl] at HPy
  go_wp2_with (fail)
  refine (HPy.out).mono ?_
  rintro en w9 ⟨vy, rfl, hown, hfr⟩
  obtain ⟨Ay, cy, rfl, -⟩ := hown.form
  have HK9 := hide (HK8.out.fr0 hfr)
  have HO9 := hide (HO8.out.fr0 hfr)
  have HR9 := hide (HR8.out.fr0 hfr)
  have HS9 := hide (Nat.le_trans HS8.out (hfr).size)
  clear HK8 HO8 HR8 HS8
  clear hfr hown HDy HFy HPy
  go_wp2_with (fail)
  refine (awake10_any w9).mono ?_
  rintro en w10 ⟨rfl, hfr⟩
  have HK10 := hide (HK9.out.fr0 hfr)
  have HO10 := hide (HO9.out.fr0 hfr)
  have HR10 := hide (HR9.out.fr0 hfr)
  have HS10 := hide (Nat.le_trans HS9.out (hfr).size)
  clear HK9 HO9 HR9 HS9
  clear hfr
  obtain ⟨wb, hwb⟩ : ∃ W, W = w10.alloc (.cells #[.int .u8 0] 5) := ⟨_, rfl⟩
  have HKb := hide (kbytes_any A1 (some ⟨w10.heap.size, 0, none⟩) 1 1 1 1 wb.heap.size wb.heap.size [0] [0] wb rfl rfl (Nat.le_refl _) (by unfold maxLen; decide) (Nat.le_refl _) (by unfold maxLen; decide) (by rw [hwb]; exact (HO10.out.fr0 ((Fr.refl No w10).alloc _)).rd) (by rw [hwb]; exact (Rd.block (heap_alloc_new w10 (.cells #[.int .u8 0] 5))).more (by simp)))
  rw [decide_eq_true rfl] at HKb
  have hfb : Fr No w10 wb := by rw [hwb]; exact (Fr.refl No w10).alloc _
  go_wp2_with (fail)
  rw [← hwb]
  refine HKb.out.mono ?_
  rintro en w11 ⟨rfl, nq, hq⟩
  have hfr : Fr No w10 w11 := by rw [hq]; exact hfb.drewN nq
  have HK11 := hide (HK10.out.fr0 hfr)
  have HO11 := hide (HO10.out.fr0 hfr)
  have HR11 := hide (HR10.out.fr0 hfr)
  have HS11 := hide (Nat.le_trans HS10.out hfr.size)
  clear hfr hq hfb hwb HKb HK10 HO10 HR10 HS10
  obtain ⟨wb, hwb⟩ : ∃ W, W = w11.alloc (.cells #[.int .i64 2, .slice (some ⟨g1, 0, none⟩) 1 1, .int .i64 2, .slice (some ⟨g1, 0, none⟩) 1 1] 58) := ⟨_, rfl⟩
  have hfb : Fr No w11 wb := by rw [hwb]; exact (Fr.refl No w11).alloc _
  have HBt := hide (built_any (some ⟨w11.heap.size, 0, none⟩) 2 2 wb.heap.size [(2, [0]), (2, [0])] 1 wb rfl (Nat.le_refl _) (by unfold maxLen; decide) (Nat.le_refl _) ⟨[((2, [0]), some ⟨g1, 0, none⟩, 1), ((2, [0]), some ⟨g1, 0, none⟩, 1)], rfl, by
    rw [hwb]
    exact (Rd.block (heap_alloc_new w11 (.cells #[.int .i64 2, .slice (some ⟨g1, 0, none⟩) 1 1, .int .i64 2, .slice (some ⟨g1, 0, none⟩) 1 1] 58))).more (by simp), fun p hp => by
    have e : p = ((2, [0]), some ⟨g1, 0, none⟩, 1) := by
      rcases List.mem_cons.1 hp with h | h
      · exact h
      · exact List.mem_singleton.1 h
    subst e
    exact ⟨Nat.le_refl _, (show 1 ≤ maxLen by unfold maxLen; decide), (HR11.out.fr0 hfb).more (Nat.le_trans HS11.out hfb.size)⟩⟩ (fun x hx => by
    have e : x = (2, [0]) := by
      rcases List.mem_cons.1 hx with h | h
      · exact h
      · exact List.mem_singleton.1 h
    subst e
    exact ⟨in_small (by decide), by decide, by decide⟩) (fun x hx => by
    have e : x = (2, [0]) := by
      rcases List.mem_cons.1 hx with h | h
      · exact h
      · exact List.mem_singleton.1 h
    subst e
    decide) k_two)
  go_wp2_with (fail)
  rw [← hwb]
  refine HBt.out.mono ?_
  rintro en w12 ⟨rfl, hfr2⟩
  have hfr : Fr No w11 w12 := hfb.tr hfr2
  have HK12 := hide (HK11.out.fr0 hfr)
  have HO12 := hide (HO11.out.fr0 hfr)
  have HR12 := hide (HR11.out.fr0 hfr)
  have HS12 := hide (Nat.le_trans HS11.out hfr.size)
  clear hfr hfr2 hfb hwb HBt HK11 HO11 HR11 HS11
  go_wp2_with (fail)
  refine (built_one none 0 0 1 [] 1 w12 rfl (Nat.le_refl _) (Nat.zero_le _) (Rd.nil _ _ _) (by decide) (in_small (by decide)) (by decide) k_nil).mono ?_
  rintro en w13 ⟨rfl, hfr⟩
  have HK13 := hide (HK12.out.fr0 hfr)
  have HO13 := hide (HO12.out.fr0 hfr)
  have HR13 := hide (HR12.out.fr0 hfr)
  have HS13 := hide (Nat.le_trans HS12.out (hfr).size)
  clear HK12 HO12 HR12 HS12
  clear hfr
  have hbn := built_one (some ⟨w13.heap.size, 0, none⟩) 2 2 1 [3, 2] 1 (w13.alloc (.cells #[.int .i64 3, .int .i64 2] 3)) rfl (Nat.le_refl _) (by unfold maxLen; decide) (rd_ints w13 _ _ rfl) (by decide) (in_small (by decide)) (by decide) k_down
  rw [show (w13.alloc (.cells #[.int .i64 3, .int .i64 2] 3)).heap.size = w13.heap.size + 1 by simp] at hbn
  have HBn := hide hbn
  clear hbn
  go_wp2_with (fail)
  refine (HBn.out).mono ?_
  rintro en w14 ⟨rfl, hfr2⟩
  have hfr : Fr No w13 w14 := ((Fr.refl No w13).alloc _).tr hfr2
  have HK14 := hide (HK13.out.fr0 hfr)
  have HO14 := hide (HO13.out.fr0 hfr)
  have HR14 := hide (HR13.out.fr0 hfr)
  have HS14 := hide (Nat.le_trans HS13.out (hfr).size)
  clear HK13 HO13 HR13 HS13
  clear hfr hfr2 HBn
  have hbn := built_one (some ⟨w14.heap.size, 0, none⟩) 2 2 1 [3, 3] 0 (w14.alloc (.cells #[.int .i64 3, .int .i64 3] 3)) rfl (Nat.le_refl _) (by unfold maxLen; decide) (rd_ints w14 _ _ rfl) (by decide) (in_small (by decide)) (by decide) k_same
  rw [show (w14.alloc (.cells #[.int .i64 3, .int .i64 3] 3)).heap.size = w14.heap.size + 1 by simp] at hbn
  have HBn := hide hbn
  clear hbn
  go_wp2_with (fail)
  refine (HBn.out).mono ?_
  rintro en w15 ⟨rfl, hfr2⟩
  have hfr : Fr No w14 w15 := ((Fr.refl No w14).alloc _).tr hfr2
  have HK15 := hide (HK14.out.fr0 hfr)
  have HO15 := hide (HO14.out.fr0 hfr)
  have HR15 := hide (HR14.out.fr0 hfr)
  have HS15 := hide (Nat.le_trans HS14.out (hfr).size)
  clear HK14 HO14 HR14 HS14
  clear hfr hfr2 HBn
  go_wp2_with (fail)
  refine (built_one (some ⟨g1, 0, none⟩) 1 1 16384 [0] 1 w15 rfl (Nat.le_refl _) (by unfold maxLen; decide) (HR15.out.more HS15.out) (by decide) (in_small (by decide)) (by decide) k_doc).mono ?_
  rintro en w16 ⟨rfl, hfr⟩
  have HK16 := hide (HK15.out.fr0 hfr)
  have HO16 := hide (HO15.out.fr0 hfr)
  have HR16 := hide (HR15.out.fr0 hfr)
  have HS16 := hide (Nat.le_trans HS15.out (hfr).size)
  clear HK15 HO15 HR15 HS15
  clear hfr
  have hbn := built_one (some ⟨w16.heap.size, 0, none⟩) 1 1 16383 [1048576] 0 (w16.alloc (.cells #[.int .i64 1048576] 3)) rfl (Nat.le_refl _) (by unfold maxLen; decide) (rd_ints w16 _ _ rfl) (by decide) (in_small (by decide)) (by decide) k_most
  rw [show (w16.alloc (.cells #[.int .i64 1048576] 3)).heap.size = w16.heap.size + 1 by simp] at hbn
  have HBn := hide hbn
  clear hbn
  go_wp2_with (fail)
  refine (HBn.out).mono ?_
  rintro en w17 ⟨rfl, hfr2⟩
  have hfr : Fr No w16 w17 := ((Fr.refl No w16).alloc _).tr hfr2
  have HK17 := hide (HK16.out.fr0 hfr)
  have HO17 := hide (HO16.out.fr0 hfr)
  have HR17 := hide (HR16.out.fr0 hfr)
  have HS17 := hide (Nat.le_trans HS16.out (hfr).size)
  clear HK16 HO16 HR16 HS16
  clear hfr hfr2 HBn
  have hbn := built_one (some ⟨w17.heap.size, 0, none⟩) 1 1 0 [1048577] 1 (w17.alloc (.cells #[.int .i64 1048577] 3)) rfl (Nat.le_refl _) (by unfold maxLen; decide) (rd_ints w17 _ _ rfl) (by decide) (in_small (by decide)) (by decide) k_more
  rw [show (w17.alloc (.cells #[.int .i64 1048577] 3)).heap.size = w17.heap.size + 1 by simp] at hbn
  have HBn := hide hbn
  clear hbn
  go_wp2_with (fail)
  refine (HBn.out).mono ?_
  rintro en w18 ⟨rfl, hfr2⟩
  have hfr : Fr No w17 w18 := ((Fr.refl No w17).alloc _).tr hfr2
  have HK18 := hide (HK17.out.fr0 hfr)
  have HO18 := hide (HO17.out.fr0 hfr)
  have HR18 := hide (HR17.out.fr0 hfr)
  have HS18 := hide (Nat.le_trans HS17.out (hfr).size)
  clear HK17 HO17 HR17 HS17
  clear hfr hfr2 HBn
  have hbn := built_one (some ⟨w18.heap.size, 0, none⟩) 1 1 0 [-1] 1 (w18.alloc (.cells #[.int .i64 (-1)] 3)) rfl (Nat.le_refl _) (by unfold maxLen; decide) (rd_ints w18 _ _ rfl) (by decide) (in_small (by decide)) (by decide) k_less
  rw [show (w18.alloc (.cells #[.int .i64 (-1)] 3)).heap.size = w18.heap.size + 1 by simp] at hbn
  have HBn := hide hbn
  clear hbn
  go_wp2_with (fail)
  refine (HBn.out).mono ?_
  rintro en w19 ⟨rfl, hfr2⟩
  have hfr : Fr No w18 w19 := ((Fr.refl No w18).alloc _).tr hfr2
  have HK19 := hide (HK18.out.fr0 hfr)
  have HO19 := hide (HO18.out.fr0 hfr)
  have HR19 := hide (HR18.out.fr0 hfr)
  have HS19 := hide (Nat.le_trans HS18.out (hfr).size)
  clear HK18 HO18 HR18 HS18
  clear hfr hfr2 HBn
  go_wp2_with (fail)
  refine (bad10_any (some ⟨w19.heap.size, 0, none⟩) 2 2 [0, 0] (w19.alloc (.cells #[.int .u8 0, .int .u8 0] 5)) rfl (Nat.le_refl _) (by unfold maxLen; decide) (by decide) ((Rd.block (heap_alloc_new w19 (.cells #[.int .u8 0, .int .u8 0] 5))).more (by simp)) no_form00).mono ?_
  rintro en w20 ⟨rfl, hfr2⟩
  have hfr : Fr No w19 w20 := ((Fr.refl No w19).alloc _).tr hfr2
  have HK20 := hide (HK19.out.fr0 hfr)
  have HO20 := hide (HO19.out.fr0 hfr)
  have HR20 := hide (HR19.out.fr0 hfr)
  have HS20 := hide (Nat.le_trans HS19.out (hfr).size)
  clear HK19 HO19 HR19 HS19
  clear hfr hfr2
  go_wp2_with (fail)
  refine (bad10_any (some ⟨w20.heap.size, 0, none⟩) 1 1 [1] (w20.alloc (.cells #[.int .u8 1] 5)) rfl (Nat.le_refl _) (by unfold maxLen; decide) (by decide) ((Rd.block (heap_alloc_new w20 (.cells #[.int .u8 1] 5))).more (by simp)) no_form1).mono ?_
  rintro en w21 ⟨rfl, hfr2⟩
  have hfr : Fr No w20 w21 := ((Fr.refl No w20).alloc _).tr hfr2
  have HK21 := hide (HK20.out.fr0 hfr)
  have HO21 := hide (HO20.out.fr0 hfr)
  have HR21 := hide (HR20.out.fr0 hfr)
  have HS21 := hide (Nat.le_trans HS20.out (hfr).size)
  clear HK20 HO20 HR20 HS20
  clear hfr hfr2
  go_wp2_with (fail)
  refine (bad10_any none 0 0 [] w21 rfl (Nat.le_refl _) (Nat.zero_le _) (by decide) (Rd.nil _ _ _) no_form).mono ?_
  rintro en w22 ⟨rfl, hfr⟩
  have HK22 := hide (HK21.out.fr0 hfr)
  have HO22 := hide (HO21.out.fr0 hfr)
  have HR22 := hide (HR21.out.fr0 hfr)
  have HS22 := hide (Nat.le_trans HS21.out (hfr).size)
  clear HK21 HO21 HR21 HS21
  clear hfr
  go_wp2_with (fail)
  refine (plen_nil w22).mono ?_
  rintro en w23 ⟨rfl, hq⟩
  have hfr : Fr No w22 w23 := by rw [← hq]; exact Fr.refl No w22
  have HK23 := hide (HK22.out.fr0 hfr)
  have HO23 := hide (HO22.out.fr0 hfr)
  have HR23 := hide (HR22.out.fr0 hfr)
  have HS23 := hide (Nat.le_trans HS22.out (hfr).size)
  clear HK22 HO22 HR22 HS22
  clear hfr hq
  go_wp2_with (fail)
  refine (pposts_nil w23).mono ?_
  rintro en w24 ⟨rfl, hq⟩
  have hfr : Fr No w23 w24 := by rw [← hq]; exact Fr.refl No w23
  have HK24 := hide (HK23.out.fr0 hfr)
  have HO24 := hide (HO23.out.fr0 hfr)
  have HR24 := hide (HR23.out.fr0 hfr)
  have HS24 := hide (Nat.le_trans HS23.out (hfr).size)
  clear HK23 HO23 HR23 HS23
  clear hfr hq
  have HDx := hide (itDoc_any _ X _ [] .start w24 HK24.out.it)
  rw [show docS [] .start = -1 from rfl] at HDx
  go_wp2_with (fail)
  refine (HDx.out).mono ?_
  rintro en w25 ⟨he, nq, hq⟩
  subst he
  have hfr : Fr No w24 w25 := by rw [hq]; exact (Fr.refl No w24).drewN nq
  have HK25 := hide (HK24.out.fr0 hfr)
  have HO25 := hide (HO24.out.fr0 hfr)
  have HR25 := hide (HR24.out.fr0 hfr)
  have HS25 := hide (Nat.le_trans HS24.out (hfr).size)
  clear HK24 HO24 HR24 HS24
  clear hfr hq
  have HNx := hide (next_any _ _ X _ [] .start w25 HK25.out.it HK25.out.lv rightP_nil)
  rw [show nxS [] .start = .done from rfl] at HNx
  go_wp2_with (fail)
  refine HNx.out.mono ?_
  rintro en w26 ⟨hfr, he, hit⟩
  simp only [itOn] at he
  subst he
  have HZ26 := hide (HK25.out.go hfr hit)
  clear hfr hit HNx HDx HK25 HO25 HR25 HS25
  have HDx := hide (itDoc_any _ X _ [] .done w26 HZ26.out.it)
  rw [show docS [] .done = 16384 from rfl] at HDx
  go_wp2_with (fail)
  refine HDx.out.mono ?_
  rintro en wx ⟨rfl, hq⟩
  have HZ := hide (HZ26.out.q hq)
  clear hq
  go_wp2_with (fail)
  refine (next_nil wx).mono ?_
  rintro en wy ⟨rfl, rfl⟩
  go_wp2_with (fail)
  refine (adv_nil 0 wx).mono ?_
  rintro en wy ⟨rfl, rfl⟩
  go_wp2_with (fail)
  refine (itDoc_nil wx).mono ?_
  rintro en wy ⟨rfl, hq⟩
  have HZ2 := hide (HZ.out.q hq)
  clear hq
  go_wp2_with (fail)
  go_ret
  exact ⟨rfl, HZ2.out.fr⟩
end Go.Proofs.Ythlbfnoahdjdeaa
