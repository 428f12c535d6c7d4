/- BkdRanges, walked. -/
import Derived.Test.YtpopbkcbplmcaaaK12
namespace Go.Proofs.Ytpopbkcbplmcaaa
set_option linter.unusedVariables false
set_option linter.unusedSimpArgs false
open Go.RowKit

theorem may_isB {dims : Nat} {l : List Pt} (hm : mayP (dims : Int) l) (hi : InI2 l) : IsB (keptP (dims : Int) l) dims l := ⟨hm, fun p hp => (hi p hp).1, keptP_yes hm⟩
theorem kept_len {dims : Int} {l : List Pt} : (keptP dims l).length ≤ 140737488355328 := by
  by_cases hm : mayP dims l
  · obtain ⟨d, rfl⟩ : ∃ d : Nat, dims = (d : Int) := ⟨dims.toNat, by have := hm.1; omega⟩
    rw [keptP_yes hm, buildT, List.length_append, List.length_append]
    have h1 := (enc_len d).2
    have h2 := (enc_len l.length).2
    have h3 := hm.2.2.1
    by_cases h0 : l.length = 0
    · rw [treeP_leaf (by omega), List.length_cons, List.length_append, List.eq_nil_of_length_eq_zero h0]
      have h4 := (enc_len ([] : List Pt).length).2
      simp only [sortP, List.mergeSort_nil, ptsB, List.map_nil, List.flatten_nil, List.length_nil] at *
      omega
    · have h4 := treeP_le d _ l rfl (by omega) (fun p hp => by have := (hm.2.2.2 p hp).1; have := hm.2.1; omega)
      omega
  · rw [keptP_no hm]; simp
set_option maxRecDepth 100000 in
set_option maxHeartbeats 4000000 in
theorem bkdranges_no (A Al Ah : Option Addr) (n n1 n2 c cl ch B : Nat) (dims : Int) (l : List Po) (w : World) (hl : l.length = n) (hn : n ≤ c) (hc : c ≤ maxLen) (hc2 : n * 32 ≤ 140737488355328) (hns : ∀ e ∈ l, (e.2.length + 1) * 8 ≤ 140737488355328) (hB : B ≤ w.heap.size) (hi : InI2 l) (hr : RdPo w B A l) (hm : ¬ mayP dims l) :
    Calls Try.prog 6 #[.int .i64 dims, .slice A n c, .slice Al n1 cl, .slice Ah n2 ch] w (RetB true w) := by
  have HLe := hide (lentPo_any A n c B l w hl hn hc hc2 hns hB hr)
  have HL := hide hl
  have HI := hide hi
  have HBw := hide hB
  have HC2 := hide hc2
  have HM := hide hm
  unfold maxLen at hc
  clear hl hr hns hi hB hm
  go_enter Try.func6, Try.ntmps6
  go_wp2_with (fail)
  refine HLe.out.mono ?_
  rintro en w1 ⟨A1, c1, A2, c2, rfl, hle, hre, hf⟩
  obtain ⟨r1, r2, r3⟩ := hle.rd
  obtain ⟨s1, s2, s3⟩ := hre.rd (Nat.le_trans HBw.out hf.size)
  have HBb := hide (bbuild_any A1 n c1 w1.heap.size dims l w1 HL.out r2 r3 HC2.out (Nat.le_refl _) HI.out r1)
  rw [keptP_no HM.out] at HBb
  have HMy := hide (fun W (f : Fr No w1 W) => may_any A2 n c2 w1.heap.size dims l W HL.out s2 s3 (s1.fr0 f))
  rw [decide_eq_false HM.out] at HMy
  have HF1 := hide hf
  unfold maxLen at r3 s3
  clear hle hre hf r1 s1 HLe
  go_wp2_with (fail)
  refine HBb.out.mono ?_
  rintro en w2 ⟨v2, rfl, hown, hfr⟩
  obtain ⟨A3, c3, rfl, p1, p2, _⟩ := hown.form
  have HF2 := hide (HF1.out.tr hfr)
  have HM2 := hide (HMy.out w2 hfr)
  clear hown hfr HBb HMy
  go_wp2_with (fail)
  refine HM2.out.mono ?_
  rintro en w3 ⟨rfl, rfl⟩
  go_wp2_with (fail)
  go_ret
  exact ⟨rfl, HF2.out⟩
set_option maxRecDepth 100000 in
set_option maxHeartbeats 8000000 in
theorem bkdranges_yes (A Al Ah : Option Addr) (n n1 n2 c cl ch B : Nat) (dims : Nat) (l : List Po) (low high : List Int) (w : World) (hl : l.length = n) (hn : n ≤ c) (hc : c ≤ maxLen) (hc2 : n * 32 ≤ 140737488355328) (hns : ∀ e ∈ l, (e.2.length + 1) * 8 ≤ 140737488355328) (hB : B ≤ w.heap.size) (hi : InI2 l) (hr : RdPo w B A l) (hm : mayP (dims : Int) l)
    (hl1 : low.length = n1) (hl2 : high.length = n2) (h1 : n1 ≤ cl) (h2 : n2 ≤ ch) (hc3 : cl ≤ maxLen) (hc4 : ch ≤ maxLen) (hb1 : cl * 8 ≤ 140737488351232) (hb2 : ch * 8 ≤ 140737488351232) (hr1 : Rd w w.heap.size Al (iz .i64 low)) (hr2 : Rd w w.heap.size Ah (iz .i64 high)) :
    Calls Try.prog 6 #[.int .i64 (dims : Nat), .slice A n c, .slice Al n1 cl, .slice Ah n2 ch] w (RetB true w) := by
  have HLe := hide (lentPo_any A n c B l w hl hn hc hc2 hns hB hr)
  have HL := hide hl
  have HI := hide hi
  have HBw := hide hB
  have HC2 := hide hc2
  have HM := hide hm
  have HIs := hide (may_isB hm hi)
  have HKl := hide (kept_len (dims := (dims : Int)) (l := l))
  have HL1 := hide hl1
  have HL2 := hide hl2
  have HR1 := hide hr1
  have HR2 := hide hr2
  have HC3 := hide (And.intro h1 (And.intro h2 (And.intro hc3 hc4)))
  have hd4 : 1 ≤ dims ∧ dims ≤ 4 := by have := hm.1; have := hm.2.1; omega
  have hn20 : n ≤ 1048576 := by have := hm.2.2.1; omega
  unfold maxLen at hc hc3 hc4
  clear hl hr hns hi hB hm hl1 hl2 hr1 hr2
  go_enter Try.func6, Try.ntmps6
  go_wp2_with (fail)
  refine HLe.out.mono ?_
  rintro en w1 ⟨A1, c1, A2, c2, rfl, hle, hre, hf⟩
  obtain ⟨r1, r2, r3⟩ := hle.rd
  obtain ⟨s1, s2, s3⟩ := hre.rd (Nat.le_trans HBw.out hf.size)
  have HBb := hide (bbuild_any A1 n c1 w1.heap.size (dims : Nat) l w1 HL.out r2 r3 HC2.out (Nat.le_refl _) HI.out r1)
  have HRe := hide s1
  have HCr := hide (And.intro s2 s3)
  have HF1 := hide hf
  unfold maxLen at r3 s3
  clear hle hre hf r1 s1 HLe
  obtain ⟨bs, hbs⟩ : ∃ K, K = keptP (dims : Int) l := ⟨_, rfl⟩
  rw [← hbs] at HBb HIs HKl
  obtain ⟨m, hm⟩ : ∃ m, m = bs.length := ⟨_, rfl⟩
  have HMl := hide hm
  clear hbs hm
  go_wp2_with (fail)
  refine HBb.out.mono ?_
  rintro en w2 ⟨v2, rfl, hown, hfr⟩
  rw [← HMl.out] at hown HKl
  obtain ⟨A3, c3, rfl, p1, p2, _, p3, _⟩ := hown.form
  have HO2 := hide hown
  have HF2 := hide hfr
  have HM2 := hide (may_any A2 n c2 w1.heap.size (dims : Nat) l w2 HL.out HCr.out.1 HCr.out.2 (HRe.out.fr0 hfr))
  rw [decide_eq_true HM.out] at HM2
  have HOp := hide (callsIn_wide.1 (bopen_in 6 (Nat.le_refl _) m c3 A3 bs w2.heap.size w2 HMl.out.symm p1 p2 HKl.out (Nat.le_refl _) p3))
  unfold maxLen at p2
  clear hown hfr HBb p3
  go_wp2_with (fail)
  refine HM2.out.mono ?_
  rintro en w3 ⟨rfl, rfl⟩
  clear HM2
  go_wp2_with (fail)
  refine HOp.out.mono ?_
  rintro en w4 hq
  obtain ⟨gT, rfl, hf, ht⟩ := hq.yes HIs.out
  have HF4 := hide hf
  have HT4 := hide ht
  have HO4 := hide (HO2.out.fr0 hf)
  have HLn := hide (blen_any w2.heap.size gT dims l w4 ht)
  have HDm := hide (bdims_any w2.heap.size gT dims l w4 ht)
  rw [HL.out] at HLn
  have bn : ((n : Int) != (n : Int)) = false := by simp
  have bd : ((dims : Int) != (dims : Int)) = false := by simp
  clear hq hf ht HOp
  go_wp2_with (first
    | (go_at_call 21; refine HLn.out.mono ?_; rintro en w' ⟨rfl, rfl⟩)
    | (go_at_call 22; refine HDm.out.mono ?_; rintro en w' ⟨rfl, rfl⟩))
  clear HLn HDm bn bd
  go_loopg [14] m (fun gk i wr => ∃ (k : Nat) (ys : List Value), k + gk = m ∧ i = .int .i64 (k : Nat) ∧ Hid (Own wr w1.heap.size 5 1 (.slice A3 m c3) m ys) ∧ Hid (Fr (fun k => (Value.slice A3 m c3).ownBlock = some k) w4 wr))
  case atStart => exact ⟨0, _, by omega, rfl, HO4, hide (Fr.refl _ _)⟩
  case round =>
    clear HO4
    obtain ⟨k, ys, hk, rfl, HOw, HFw⟩ := hrel
    obtain ⟨w5, rfl⟩ : ∃ wo : World, wo = wr := ⟨_, rfl⟩
    by_cases hlk : k < m
    · obtain ⟨gg, e, _, _, hcell, hfz, hst⟩ := HOw.out.store hlk
      have hyl : ys.length = m := by have := HOw.out.1; omega
      rw [List.getElem?_eq_getElem (by omega)] at hcell
      subst e
      obtain ⟨g', rfl⟩ : ∃ g', gk = g' + 1 := ⟨gk - 1, by omega⟩
      have HK := hide hk
      have HS := hide (hst (.int .u8 255))
      obtain ⟨y, hy⟩ : ∃ y, y = ys[k] := ⟨_, rfl⟩
      rw [← hy] at hcell
      clear hst hyl hk hy
      go_wp2_with (fail)
      go_roundg g'
      case measure => omega
      case rel => exact ⟨k + 1, _, by have := HK.out; omega, by go_num, HS, hide (HFw.out.setCell (p := ⟨gg, k, none⟩) (fun _ => rfl) _)⟩
    · obtain rfl : k = m := by omega
      have hS1 : ∀ j, (Value.slice A3 k c3).ownBlock = some j → w1.heap.size ≤ j ∧ j < w2.heap.size := fun j hj => HO2.out.lt j hj
      have HT5 := hide (HT4.out.fr HFw.out (fun j hj => (hS1 j hj).2))
      have hF15 : Fr No w1 w5 := (HF2.out.tr HF4.out).trans HFw.out (fun i hi e => by have := (hS1 i e).1; omega)
      have HRe5 := hide (HRe.out.fr0 hF15)
      have hF5 : Fr No w w5 := HF1.out.tr hF15
      have HF5 := hide hF5
      have HR15 := hide (HR1.out.fr0 hF5)
      have HR25 := hide (HR2.out.fr0 hF5)
      have HLo := hide (lentI64_any Al n1 cl w.heap.size low w5 HL1.out (by have := HC3.out; omega) HR15.out)
      have HSz2 := hide (show w2.heap.size ≤ w5.heap.size by have h1 := HF4.out.size; have h2 := HFw.out.size; omega)
      clear hS1 hF15 hF5 HOw HFw HT4 HF4 HO2 hlk hk
      go_wp2_with (fail)
      refine HLo.out.mono ?_
      rintro en w6 ⟨Ax, cx, rfl, ox, fx⟩
      have HHi := hide (lentI64_any Ah n2 ch w.heap.size high w6 HL2.out (by have := HC3.out; omega) (HR25.out.fr0 fx))
      have HOx := hide ox
      have HF6 := hide fx
      rw [HL1.out] at HOx ⊢
      clear ox fx HLo
      go_wp2_with (fail)
      refine HHi.out.mono ?_
      rintro en w7 ⟨Ay, cy, rfl, oy, fy⟩
      rw [HL2.out] at oy ⊢
      have HOy := hide oy
      have HOx7 := hide (HOx.out.fr0 fy)
      have HF57 := hide (HF6.out.tr fy)
      have hx := HOx7.out.le
      have hy := oy.le
      have hrx : Rd w7 w7.heap.size Ax (iz .i64 low) := by
        have h := HOx7.out.rd.tk low.length
        rw [← iz_take, List.take_left] at h
        exact h
      have hry : Rd w7 w7.heap.size Ay (iz .i64 high) := by
        have h := oy.rd.tk high.length
        rw [← iz_take, List.take_left] at h
        exact h
      have HRx := hide hrx
      have HRy := hide hry
      have HT7 := hide (HT5.out.fr0 HF57.out)
      have HRa := hide (brange_any w2.heap.size gT dims l Ax Ay n1 n2 cx cy w7.heap.size w7.heap.size low high w7 HT7.out HM.out HL1.out HL2.out (by omega) (by omega) hx.2.2 hy.2.2 (Nat.le_refl _) (Nat.le_refl _) hrx hry)
      have HLe2 := hide (And.intro hx hy)
      obtain ⟨rg, hrg⟩ : ∃ r, r = rngZ dims l low high := ⟨_, rfl⟩
      obtain ⟨ct, hct⟩ : ∃ r, r = (boxP dims l low high).length := ⟨_, rfl⟩
      have HRr := hide (fun W (f : Fr No w7 W) => rrange_any A2 Al Ah n n1 n2 dims c2 cl ch w1.heap.size w.heap.size w.heap.size l low high W HL.out HCr.out.1 HCr.out.2 HM.out HL1.out HL2.out HC3.out.1 HC3.out.2.1 HC3.out.2.2.1 HC3.out.2.2.2 ((HRe5.out.fr0 HF57.out).fr0 f) ((HR15.out.fr0 HF57.out).fr0 f) ((HR25.out.fr0 HF57.out).fr0 f))
      have HCt := hide (fun W (f : Fr No w7 W) => count_any w2.heap.size gT dims l Ax Ay n1 n2 cx cy w7.heap.size w7.heap.size low high W (HT7.out.fr0 f) HM.out HL1.out HL2.out (by have := HLe2.out.1; omega) (by have := HLe2.out.2; omega) HLe2.out.1.2.2 HLe2.out.2.2.2 f.size f.size (HRx.out.fr0 f) (HRy.out.fr0 f))
      have HCr2 := hide (fun W (f : Fr No w7 W) => rcount_any A2 Al Ah n n1 n2 dims c2 cl ch w1.heap.size w.heap.size w.heap.size l low high W HL.out HCr.out.1 HCr.out.2 HM.out HL1.out HL2.out HC3.out.1 HC3.out.2.1 HC3.out.2.2.1 HC3.out.2.2.2 ((HRe5.out.fr0 HF57.out).fr0 f) ((HR15.out.fr0 HF57.out).fr0 f) ((HR25.out.fr0 HF57.out).fr0 f))
      rw [← hrg] at HRa HRr
      rw [← hct] at HCt HCr2
      have bct : ((ct : Int) != (ct : Int)) = false := by simp
      clear oy fy hx hy hrx hry hrg hct HHi
      go_wp2_with (fail)
      refine HRa.out.mono ?_
      rintro en w8 ⟨v8, rfl, o8, f8⟩
      obtain ⟨z, hz⟩ : ∃ z, z = rg.length := ⟨_, rfl⟩
      rw [← hz] at o8
      obtain ⟨A8, c8, rfl, x1, x2, _, x3, _⟩ := o8.form
      have HR8 := hide x3
      have HX8 := hide (And.intro x1 x2)
      have HF8 := hide f8
      have HRr8 := hide (HRr.out w8 f8)
      have HZ := hide hz
      unfold maxLen at x2
      clear o8 f8 x3 HRa HRr hz
      go_wp2_with (fail)
      refine HRr8.out.mono ?_
      rintro en w9 ⟨v9, rfl, o9, f9⟩
      rw [← HZ.out] at o9
      obtain ⟨A9, c9, rfl, y1, y2, _, y3, _⟩ := o9.form
      have HSm := hide (sameInt_any A8 A9 z c8 z c9 _ _ rg rg w9 HZ.out.symm HZ.out.symm HX8.out.1 HX8.out.2 y1 y2 (HR8.out.fr0 f9) y3)
      rw [decide_eq_true rfl] at HSm
      have HF9 := hide (HF8.out.tr f9)
      unfold maxLen at y2
      clear o9 f9 y3 HRr8
      go_wp2_with (fail)
      refine HSm.out.mono ?_
      rintro en w10 ⟨rfl, nq1, hq1⟩
      have HF10 := hide (show Fr No w7 w10 by rw [hq1]; exact HF9.out.drewN nq1)
      have HC10 := hide (HCt.out w10 HF10.out)
      clear hq1 HSm HCt HF9
      go_wp2_with (fail)
      refine HC10.out.mono ?_
      rintro en w11 ⟨rfl, f11⟩
      have HF11 := hide (HF10.out.tr f11)
      have HC11 := hide (HCr2.out w11 HF11.out)
      clear f11 HC10 HCr2 HF10
      go_wp2_with (fail)
      refine HC11.out.mono ?_
      rintro en w12 ⟨rfl, f12⟩
      have HF12 := hide (HF11.out.tr f12)
      have HKx := hide (fun W (f : Fr No w7 W) => keptI64_any Ax Al n1 cx n1 cl _ _ low W HL1.out HL1.out HLe2.out.1.2.1 HLe2.out.1.2.2 HC3.out.1 HC3.out.2.2.1 (HOx7.out.rd.fr0 f) ((HR15.out.fr0 HF57.out).fr0 f))
      have HKy := hide (fun W (f : Fr No w7 W) => keptI64_any Ay Ah n2 cy n2 ch _ _ high W HL2.out HL2.out HLe2.out.2.2.1 HLe2.out.2.2.2 HC3.out.2.1 HC3.out.2.2.2 (HOy.out.rd.fr0 f) ((HR25.out.fr0 HF57.out).fr0 f))
      have HKx12 := hide (HKx.out w12 HF12.out)
      clear f12 HC11 HF11 HKx
      go_wp2_with (fail)
      refine HKx12.out.mono ?_
      rintro en w13 ⟨rfl, nq2, hq2⟩
      have HF13 := hide (show Fr No w7 w13 by rw [hq2]; exact HF12.out.drewN nq2)
      have HKy13 := hide (HKy.out w13 HF13.out)
      clear hq2 HKx12 HKy HF12
      go_wp2_with (fail)
      refine HKy13.out.mono ?_
      rintro en w14 ⟨rfl, nq3, hq3⟩
      have HF14 := hide (show Fr No w w14 by rw [hq3]; exact ((HF5.out.tr HF57.out).tr HF13.out).drewN nq3)
      clear hq3
      go_wp2_with (fail)
      go_ret
      exact ⟨rfl, HF14.out⟩
theorem bkdranges_any (A Al Ah : Option Addr) (n n1 n2 c cl ch B : Nat) (dims : Int) (l : List Po) (low high : List Int) (w : World) (hl : l.length = n) (hn : n ≤ c) (hc : c ≤ maxLen) (hc2 : n * 32 ≤ 140737488355328) (hns : ∀ e ∈ l, (e.2.length + 1) * 8 ≤ 140737488355328) (hB : B ≤ w.heap.size) (hi : InI2 l) (hr : RdPo w B A l)
    (hl1 : low.length = n1) (hl2 : high.length = n2) (h1 : n1 ≤ cl) (h2 : n2 ≤ ch) (hc3 : cl ≤ maxLen) (hc4 : ch ≤ maxLen) (hb1 : cl * 8 ≤ 140737488351232) (hb2 : ch * 8 ≤ 140737488351232) (hr1 : Rd w w.heap.size Al (iz .i64 low)) (hr2 : Rd w w.heap.size Ah (iz .i64 high)) :
    Calls Try.prog 6 #[.int .i64 dims, .slice A n c, .slice Al n1 cl, .slice Ah n2 ch] w (RetB true w) := by
  by_cases hm : mayP dims l
  · obtain ⟨d, rfl⟩ : ∃ d : Nat, dims = (d : Int) := ⟨dims.toNat, by have := hm.1; omega⟩
    exact bkdranges_yes A Al Ah n n1 n2 c cl ch B d l low high w hl hn hc hc2 hns hB hi hr hm hl1 hl2 h1 h2 hc3 hc4 hb1 hb2 hr1 hr2
  · exact bkdranges_no A Al Ah n n1 n2 c cl ch B dims l w hl hn hc hc2 hns hB hi hr hm
end Go.Proofs.Ytpopbkcbplmcaaa
