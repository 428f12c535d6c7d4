/- Several texts in one: BkIs, BkKp, Kit8, BkKn, BkWh, ApartInt, ApartI64. -/
import Derived.Test.YtpopbkcbplmcaaaK12
import Derived.Deep.LoopGhost
namespace Go.Proofs.Ytpopbkcbplmcaaa
set_option linter.unusedVariables false
set_option linter.unusedSimpArgs false
open Go.RowKit

theorem may_isB {dims : Nat} {l : List Pt} (hm : mayP (dims : Int) l) (hi : InI2 l) : IsB (keptP (dims : Int) l) dims l := ⟨hm, fun p hp => (hi p hp).1, keptP_yes hm⟩
theorem kept_len {dims : Int} {l : List Pt} : (keptP dims l).length ≤ 140737488355328 := by
  by_cases hm : mayP dims l
  · obtain ⟨d, rfl⟩ : ∃ d : Nat, dims = (d : Int) := ⟨dims.toNat, by have := hm.1; omega⟩
    rw [keptP_yes hm, buildT, List.length_append, List.length_append]
    have h1 := (enc_len d).2
    have h2 := (enc_len l.length).2
    have h3 := hm.2.2.1
    by_cases h0 : l.length = 0
    · rw [treeP_leaf (by omega), List.length_cons, List.length_append, List.eq_nil_of_length_eq_zero h0]
      have h4 := (enc_len ([] : List Pt).length).2
      simp only [sortP, List.mergeSort_nil, ptsB, List.map_nil, List.flatten_nil, List.length_nil] at *
      omega
    · have h4 := treeP_le d _ l rfl (by omega) (fun p hp => by have := (hm.2.2.2 p hp).1; have := hm.2.1; omega)
      omega
  · rw [keptP_no hm]; simp
end Go.Proofs.Ytpopbkcbplmcaaa
namespace Go.Proofs.Ytpopbkcbplmcaaa
set_option linter.unusedVariables false
set_option linter.unusedSimpArgs false
open Go.RowKit

def pK : List Pt := [(3, [5]), (1, [-2])]
theorem pK_may : mayP ((1 : Nat) : Int) pK := ⟨by decide, by decide, by decide, by decide⟩
theorem pK_in : InI2 pK := by unfold InI2 InI pK; decide
theorem pK_sort : sortP 0 pK = [(1, [-2]), (3, [5])] := (sortP_uniq (List.Perm.swap _ _ _) (by decide)).symm
theorem enc_small {n : Nat} (h : n < 128) : enc n = [UInt8.ofNat n] := by
  rw [enc, encF, if_neg (by omega)]
theorem pK_kept : keptP ((1 : Nat) : Int) pK = [1, 2, 0, 2, 1, 3, 3, 10] := by
  rw [keptP_yes pK_may, buildT, treeP_leaf (by decide), pK_sort]
  simp only [ptsB, ptB, List.map_cons, List.map_nil, List.flatten_cons, List.flatten_nil, List.append_nil, pK, List.length_cons, List.length_nil, Nat.reduceAdd]
  rw [enc_small (by decide), enc_small (by decide), enc_small (show ((1 : Int)).toNat < 128 by decide), enc_small (show ((3 : Int)).toNat < 128 by decide), enc_small (show zz (-2) < 128 by decide), enc_small (show zz 5 < 128 by decide)]
  decide
theorem pK_r1 : rngZ 1 pK [0] [9] = [3] := by
  refine setZ_of (by simp [ltZ]) (fun t => ?_)
  have e : (boxP 1 pK [0] [9]).map (·.1) = [3] := by decide
  rw [e]
theorem pK_r2 : rngZ 1 pK [-2] [5] = [1, 3] := by
  refine setZ_of (by simp [ltZ]) (fun t => ?_)
  have e : (boxP 1 pK [-2] [5]).map (·.1) = [3, 1] := by decide
  rw [e]
  simp
  omega
theorem pK_c : (boxP 1 pK [-2] [4]).length = 1 := by decide
theorem pK_low : lowsB 1 pK = [-2] := by decide
theorem pK_high : highsB 1 pK = [5] := by decide
theorem cut_no : ∀ dims l, ¬ IsB [2, 0, 0] dims l := by
  intro dims l h
  have hm : mayP ((2 : Nat) : Int) [] := ⟨by decide, by decide, by decide, by decide⟩
  have h2 : IsB [2, 0, 0, 0] 2 [] := ⟨hm, (fun p hp => by cases hp), by
    rw [buildT, treeP_leaf (by decide), show sortP 0 [] = [] by simp [sortP]]
    simp only [ptsB, List.map_nil, List.flatten_nil, List.append_nil, List.length_nil]
    rw [enc_small (by decide), enc_small (by decide)]
    decide⟩
  exact absurd (isB_pre h h2 ⟨[0], rfl⟩) (by decide)
end Go.Proofs.Ytpopbkcbplmcaaa
namespace Go.Proofs.Ytpopbkcbplmcaaa
set_option linter.unusedVariables false
set_option linter.unusedSimpArgs false
open Go.RowKit

set_option maxRecDepth 100000 in
set_option maxHeartbeats 800000 in
theorem kbytes_any (A B : Option Addr) (n c m d b1 b2 : Nat) (xs ys : List UInt8) (w : World) (hx : xs.length = n) (hy : ys.length = m) (hn : n ≤ c) (hc : c ≤ maxLen) (hm : m ≤ d) (hd : d ≤ maxLen) (hr : Rd w b1 A (by8 xs)) (hs : Rd w b2 B (by8 ys)) :
    Calls Try.prog 17 #[.slice A n c, .slice B m d] w (RetQ (.bool (decide (xs = ys))) w) := by
  unfold maxLen at hc hd
  have HX := hide hx
  have HY := hide hy
  have HR := hide hr
  have HS := hide hs
  clear hx hy hr hs
  by_cases hnm : n = m
  · subst hnm
    have hb : ((n : Int) != n) = false := by simp
    go_enter Try.func17, Try.ntmps17
    go_wp2
    go_loopw [5] (fun i wr => ∃ k nq : Nat, k ≤ n ∧ i = .int .i64 k ∧ wr = w.drewN nq ∧ Hid (xs.take k = ys.take k)) (fun i _ => n - (intOf i).toNat)
    case atStart => exact ⟨0, 0, by omega, rfl, rfl, hide rfl⟩
    case round =>
      obtain ⟨k, nq, hk, rfl, rfl, HT⟩ := hrel
      by_cases hlt : k < n
      · have h1 : k < xs.length := by rw [HX.out]; exact hlt
        have h2 : k < ys.length := by rw [HY.out]; exact hlt
        obtain ⟨ad, rfl, _, hcell⟩ := HR.out.byte h1
        obtain ⟨bd, rfl, _, hcell2⟩ := HS.out.byte h2
        have HE := hide (fun he => take_succ_eq h1 h2 HT.out he)
        have HN := hide (show xs.getD k 0 ≠ ys.getD k 0 → xs ≠ ys from fun h e => h (by rw [e]))
        clear h1 h2
        generalize xs.getD k 0 = x at hcell HE HN
        generalize ys.getD k 0 = y at hcell2 HE HN
        by_cases he : x = y
        · subst he
          have HE' := hide (HE.out rfl)
          clear HE
          have hb2 : ((x.toNat : Int) != x.toNat) = false := by simp
          go_wp2
          go_quiet (fail)
          go_wp2
          go_round
          case rel => exact ⟨k + 1, _, by omega, by go_num, rfl, HE'⟩
          case measure => simp [intOf]; omega
        · have hb2 : ((x.toNat : Int) != y.toNat) = true := by
            simp
            intro h
            exact he (UInt8.toNat_inj.1 (by omega))
          go_wp2
          go_quiet (fail)
          go_wp2
          go_ret
          exact ⟨by simp [HN.out he], _, World.drewN_drewN _ _ _⟩
      · have HF := hide (show xs = ys by
          have h := HT.out
          rwa [List.take_of_length_le (by rw [HX.out]; omega), List.take_of_length_le (by rw [HY.out]; omega)] at h)
        go_wp2
        go_ret
        exact ⟨by simp [HF.out], _, rfl⟩
  · have hb : ((n : Int) != m) = true := by simp; omega
    have HF := hide (show xs ≠ ys from fun e => hnm (by rw [← HX.out, ← HY.out, e]))
    go_enter Try.func17, Try.ntmps17
    go_wp2
    go_ret
    exact ⟨by simp [HF.out], 0, rfl⟩

end Go.Proofs.Ytpopbkcbplmcaaa
namespace Go.Proofs.Ytpopbkcbplmcaaa
set_option linter.unusedVariables false
set_option linter.unusedSimpArgs false
open Go.RowKit

/-- two points of one number each, in fresh memory. -/
theorem pK_mem (w : World) : RdPo (((w.alloc (.cells #[.int .i64 5] 2)).alloc (.cells #[.int .i64 (-2)] 2)).alloc (.cells #[.int .i64 3, .slice (some ⟨w.heap.size, 0, none⟩) 1 1, .int .i64 1, .slice (some ⟨w.heap.size + 1, 0, none⟩) 1 1] 44)) (w.heap.size + 3) (some ⟨w.heap.size + 1 + 1, 0, none⟩) pK := by
  obtain ⟨W1, hW1⟩ : ∃ x, x = w.alloc (.cells #[.int .i64 5] 2) := ⟨_, rfl⟩
  obtain ⟨W2, hW2⟩ : ∃ x, x = W1.alloc (.cells #[.int .i64 (-2)] 2) := ⟨_, rfl⟩
  have r1 : Rd W1 (w.heap.size + 1) (some ⟨w.heap.size, 0, none⟩) (iz .i64 [5]) := by rw [hW1]; exact Rd.block (heap_alloc_new w (.cells #[.int .i64 5] 2))
  have r2 : Rd W2 (W1.heap.size + 1) (some ⟨W1.heap.size, 0, none⟩) (iz .i64 [-2]) := by rw [hW2]; exact Rd.block (heap_alloc_new W1 (.cells #[.int .i64 (-2)] 2))
  have f2 : Fr No W1 W2 := by rw [hW2]; exact (Fr.refl No W1).alloc _
  have z1 : W1.heap.size = w.heap.size + 1 := by rw [hW1]; simp
  have z2 : W2.heap.size = w.heap.size + 1 + 1 := by rw [hW2]; simp [z1]
  rw [← hW1, ← hW2]
  have r3 := Rd.block (heap_alloc_new W2 (.cells #[.int .i64 3, .slice (some ⟨w.heap.size, 0, none⟩) 1 1, .int .i64 1, .slice (some ⟨w.heap.size + 1, 0, none⟩) 1 1] 44))
  rw [z2] at r3
  refine ⟨[((3, [5]), some ⟨w.heap.size, 0, none⟩, 1), ((1, [-2]), some ⟨w.heap.size + 1, 0, none⟩, 1)], rfl, ?_, fun p hp => ?_⟩
  · have h := r3.more (B' := w.heap.size + 3) (by simp [z2])
    exact h
  · rcases List.mem_cons.1 hp with rfl | hp
    · exact ⟨Nat.le_refl 1, (by unfold maxLen; dsimp only; omega), ((r1.fr0 f2).fr0 ((Fr.refl _ _).alloc _)).more (by omega)⟩
    · rw [List.mem_singleton.1 hp]
      rw [z1] at r2
      exact ⟨Nat.le_refl 1, (by unfold maxLen; dsimp only; omega), (r2.fr0 ((Fr.refl _ _).alloc _)).more (by omega)⟩
/-- two numbers in fresh memory. -/
theorem lit2 (w : World) (x y : Int) : Rd ((w.alloc (.cells #[.int .i64 x] 2)).alloc (.cells #[.int .i64 y] 2)) (w.heap.size + 2) (some ⟨w.heap.size, 0, none⟩) (iz .i64 [x]) ∧ Rd ((w.alloc (.cells #[.int .i64 x] 2)).alloc (.cells #[.int .i64 y] 2)) (w.heap.size + 2) (some ⟨w.heap.size + 1, 0, none⟩) (iz .i64 [y]) := by
  have h1 : Rd (w.alloc (.cells #[.int .i64 x] 2)) (w.heap.size + 1) (some ⟨w.heap.size, 0, none⟩) (iz .i64 [x]) := Rd.block (heap_alloc_new w (.cells #[.int .i64 x] 2))
  have h2 := Rd.block (heap_alloc_new (w.alloc (.cells #[.int .i64 x] 2)) (.cells #[.int .i64 y] 2))
  have e : (w.alloc (.cells #[.int .i64 x] 2)).heap.size = w.heap.size + 1 := by simp
  rw [e] at h2
  exact ⟨(h1.fr0 ((Fr.refl _ _).alloc _)).more (by omega), h2⟩
set_option maxRecDepth 100000 in
set_option maxHeartbeats 8000000 in
theorem known13_any (w : World) : Calls Try.prog 7 #[] w (RetB true w) := by
  have HPm := hide (pK_mem w)
  have hfm : Fr No w (((w.alloc (.cells #[.int .i64 5] 2)).alloc (.cells #[.int .i64 (-2)] 2)).alloc (.cells #[.int .i64 3, .slice (some ⟨w.heap.size, 0, none⟩) 1 1, .int .i64 1, .slice (some ⟨w.heap.size + 1, 0, none⟩) 1 1] 44)) := (((Fr.refl No w).alloc _).alloc _).alloc _
  have HFm := hide hfm
  have HBb := hide (bbuild_any (some ⟨w.heap.size + 1 + 1, 0, none⟩) 2 2 (w.heap.size + 3) ((1 : Nat) : Int) pK _ rfl (Nat.le_refl _) (by unfold maxLen; decide) (by decide) (by simp) pK_in HPm.out)
  rw [pK_kept] at HBb
  clear hfm
  go_enter Try.func7, Try.ntmps7
  go_wp2_with (fail)
  refine HBb.out.mono ?_
  rintro en w2 ⟨v2, rfl, o2, f2⟩
  obtain ⟨A2, c2, rfl, p1, p2, _, p3, _⟩ := o2.form
  have HF2 := hide (HFm.out.tr f2)
  have HR2 := hide p3
  have HC2 := hide (And.intro p1 p2)
  have hib := may_isB pK_may pK_in
  rw [pK_kept] at hib
  have HIb := hide hib
  have HOp := hide (callsIn_wide.1 (bopen_in 6 (Nat.le_refl _) 8 c2 A2 [1, 2, 0, 2, 1, 3, 3, 10] w2.heap.size w2 rfl p1 p2 (by decide) (Nat.le_refl _) p3))
  unfold maxLen at p2
  clear o2 f2 p3 hib HBb HFm HPm
  go_wp2_with (fail)
  refine HOp.out.mono ?_
  rintro en w3 hq
  obtain ⟨gT, rfl, f3, ht⟩ := hq.yes HIb.out
  have HT3 := hide ht
  have HF3 := hide f3
  have HO3 := hide (callsIn_wide.1 (bopen_in 6 (Nat.le_refl _) 3 3 (some ⟨w3.heap.size, 0, none⟩) [2, 0, 0] (w3.heap.size + 1) (w3.alloc (.cells #[.int .u8 2, .int .u8 0, .int .u8 0] 5)) rfl (Nat.le_refl _) (by unfold maxLen; decide) (by decide) (by simp) (Rd.block (heap_alloc_new w3 (.cells #[.int .u8 2, .int .u8 0, .int .u8 0] 5)))))
  clear hq f3 ht HOp
  go_wp2_with (fail)
  refine HO3.out.mono ?_
  rintro en w4 hq
  obtain ⟨rfl, f4⟩ := hq.no cut_no
  have HF4 := hide (((Fr.refl No w3).alloc (.cells #[.int .u8 2, .int .u8 0, .int .u8 0] 5)).tr f4)
  have HT4 := hide (HT3.out.fr0 HF4.out)
  have HBo := hide (bounds_any w2.heap.size gT 1 pK w4 HT4.out pK_may)
  rw [pK_low, pK_high] at HBo
  clear hq f4 HO3
  go_wp2_with (fail)
  refine HBo.out.mono ?_
  rintro en w5 ⟨v5, v6, rfl, o5, o6, _, f5⟩
  obtain ⟨A5, c5, rfl, x1, x2, _, x3, _⟩ := o5.form
  obtain ⟨A6, c6, rfl, y1, y2, _, y3, _⟩ := o6.form
  have HF5 := hide f5
  have HT5 := hide (HT4.out.fr0 f5)
  have HR5 := hide x3
  have HR6 := hide y3
  have HC5 := hide (And.intro (And.intro x1 x2) (And.intro y1 y2))
  have HR25 := hide (((HR2.out.fr0 HF3.out).fr0 HF4.out).fr0 f5)
  have HFw5 := hide (((HF2.out.tr HF3.out).tr HF4.out).tr f5)
  have HKb := hide (kbytes_any A2 (some ⟨w5.heap.size, 0, none⟩) 8 c2 8 8 w2.heap.size (w5.heap.size + 1) [1, 2, 0, 2, 1, 3, 3, 10] [1, 2, 0, 2, 1, 3, 3, 10] (w5.alloc (.cells #[.int .u8 1, .int .u8 2, .int .u8 0, .int .u8 2, .int .u8 1, .int .u8 3, .int .u8 3, .int .u8 10] 5)) rfl rfl HC2.out.1 HC2.out.2 (Nat.le_refl _) (by unfold maxLen; decide) (HR25.out.fr0 ((Fr.refl No w5).alloc _)) (Rd.block (heap_alloc_new w5 (.cells #[.int .u8 1, .int .u8 2, .int .u8 0, .int .u8 2, .int .u8 1, .int .u8 3, .int .u8 3, .int .u8 10] 5))))
  rw [decide_eq_true rfl] at HKb
  unfold maxLen at x2 y2
  clear o5 o6 f5 x3 y3 HBo HF2 HR2 HF3 HF4 HT3 HT4
  go_wp2_with (fail)
  refine HKb.out.mono ?_
  rintro en w6 ⟨rfl, nq1, hq1⟩
  have HF6 := hide (show Fr No w5 w6 by rw [hq1]; exact ((Fr.refl No w5).alloc _).drewN nq1)
  clear hq1 HKb
  have HL7 := hide (lit2 w6 0 9)
  have HT7 := hide ((HT5.out.fr0 HF6.out).fr0 (((Fr.refl No w6).alloc (.cells #[.int .i64 0] 2)).alloc (.cells #[.int .i64 9] 2)))
  have HRa7 := hide (brange_any w2.heap.size gT 1 pK (some ⟨w6.heap.size, 0, none⟩) (some ⟨w6.heap.size + 1, 0, none⟩) 1 1 1 1 (w6.heap.size + 2) (w6.heap.size + 2) [0] [9] _ HT7.out pK_may rfl rfl (Nat.le_refl _) (Nat.le_refl _) (by unfold maxLen; decide) (by unfold maxLen; decide) (by simp) (by simp) HL7.out.1 HL7.out.2)
  rw [pK_r1] at HRa7
  go_wp2_with (fail)
  refine HRa7.out.mono ?_
  rintro en w7 ⟨v7, rfl, o7, f7⟩
  obtain ⟨A7, c7, rfl, g1, g2, _, g3, _⟩ := o7.form
  have HF7 := hide (((HF6.out.alloc _).alloc _).tr f7)
  have HS7 := hide (sameInt_any A7 (some ⟨w7.heap.size, 0, none⟩) 1 c7 1 1 w7.heap.size (w7.heap.size + 1) [3] [3] (w7.alloc (.cells #[.int .i64 3] 3)) rfl rfl g1 g2 (Nat.le_refl _) (by unfold maxLen; decide) (g3.fr0 ((Fr.refl No w7).alloc _)) (Rd.block (heap_alloc_new w7 (.cells #[.int .i64 3] 3))))
  rw [decide_eq_true rfl] at HS7
  unfold maxLen at g2
  clear o7 f7 g3 HRa7 HL7 HT7
  go_wp2_with (fail)
  refine HS7.out.mono ?_
  rintro en w8 ⟨rfl, nq7, hq7⟩
  have HF8 := hide (show Fr No w5 w8 by rw [hq7]; exact (HF7.out.alloc _).drewN nq7)
  clear hq7 HS7 HF7 HF6 g1 g2
  have HL9 := hide (lit2 w8 (-2) 5)
  have HT9 := hide ((HT5.out.fr0 HF8.out).fr0 (((Fr.refl No w8).alloc (.cells #[.int .i64 (-2)] 2)).alloc (.cells #[.int .i64 5] 2)))
  have HRa9 := hide (brange_any w2.heap.size gT 1 pK (some ⟨w8.heap.size, 0, none⟩) (some ⟨w8.heap.size + 1, 0, none⟩) 1 1 1 1 (w8.heap.size + 2) (w8.heap.size + 2) [(-2)] [5] _ HT9.out pK_may rfl rfl (Nat.le_refl _) (Nat.le_refl _) (by unfold maxLen; decide) (by unfold maxLen; decide) (by simp) (by simp) HL9.out.1 HL9.out.2)
  rw [pK_r2] at HRa9
  go_wp2_with (fail)
  refine HRa9.out.mono ?_
  rintro en w9 ⟨v9, rfl, o9, f9⟩
  obtain ⟨A9, c9, rfl, g1, g2, _, g3, _⟩ := o9.form
  have HF9 := hide (((HF8.out.alloc _).alloc _).tr f9)
  have HS9 := hide (sameInt_any A9 (some ⟨w9.heap.size, 0, none⟩) 2 c9 2 2 w9.heap.size (w9.heap.size + 1) [1, 3] [1, 3] (w9.alloc (.cells #[.int .i64 1, .int .i64 3] 3)) rfl rfl g1 g2 (Nat.le_refl _) (by unfold maxLen; decide) (g3.fr0 ((Fr.refl No w9).alloc _)) (Rd.block (heap_alloc_new w9 (.cells #[.int .i64 1, .int .i64 3] 3))))
  rw [decide_eq_true rfl] at HS9
  unfold maxLen at g2
  clear o9 f9 g3 HRa9 HL9 HT9
  go_wp2_with (fail)
  refine HS9.out.mono ?_
  rintro en w10 ⟨rfl, nq9, hq9⟩
  have HF10 := hide (show Fr No w5 w10 by rw [hq9]; exact (HF9.out.alloc _).drewN nq9)
  clear hq9 HS9 HF9 HF8 g1 g2
  have HL11 := hide (lit2 w10 (-2) 4)
  have HT11 := hide ((HT5.out.fr0 HF10.out).fr0 (((Fr.refl No w10).alloc (.cells #[.int .i64 (-2)] 2)).alloc (.cells #[.int .i64 4] 2)))
  have HCa := hide (count_any w2.heap.size gT 1 pK (some ⟨w10.heap.size, 0, none⟩) (some ⟨w10.heap.size + 1, 0, none⟩) 1 1 1 1 (w10.heap.size + 2) (w10.heap.size + 2) [-2] [4] _ HT11.out pK_may rfl rfl (Nat.le_refl _) (Nat.le_refl _) (by unfold maxLen; decide) (by unfold maxLen; decide) (by simp) (by simp) HL11.out.1 HL11.out.2)
  rw [pK_c] at HCa
  go_wp2_with (fail)
  refine HCa.out.mono ?_
  rintro en w11 ⟨rfl, f11⟩
  have HF11 := hide (((HF10.out.alloc _).alloc _).tr f11)
  have HS11 := hide (sameI64_any A5 (some ⟨w11.heap.size, 0, none⟩) 1 c5 1 1 w5.heap.size (w11.heap.size + 1) [-2] [-2] (w11.alloc (.cells #[.int .i64 (-2)] 2)) rfl rfl HC5.out.1.1 HC5.out.1.2 (Nat.le_refl _) (by unfold maxLen; decide) ((HR5.out.fr0 HF11.out).fr0 ((Fr.refl No w11).alloc _)) (Rd.block (heap_alloc_new w11 (.cells #[.int .i64 (-2)] 2))))
  rw [decide_eq_true rfl] at HS11
  clear f11 HCa HL11 HT11 HF10
  go_wp2_with (fail)
  refine HS11.out.mono ?_
  rintro en w12 ⟨rfl, nq12, hq12⟩
  have HF12 := hide (show Fr No w5 w12 by rw [hq12]; exact (HF11.out.alloc _).drewN nq12)
  have HS12 := hide (sameI64_any A6 (some ⟨w12.heap.size, 0, none⟩) 1 c6 1 1 w5.heap.size (w12.heap.size + 1) [5] [5] (w12.alloc (.cells #[.int .i64 5] 2)) rfl rfl HC5.out.2.1 HC5.out.2.2 (Nat.le_refl _) (by unfold maxLen; decide) ((HR6.out.fr0 HF12.out).fr0 ((Fr.refl No w12).alloc _)) (Rd.block (heap_alloc_new w12 (.cells #[.int .i64 5] 2))))
  rw [decide_eq_true rfl] at HS12
  clear hq12 HS11 HF11
  go_wp2_with (fail)
  refine HS12.out.mono ?_
  rintro en w13 ⟨rfl, nq13, hq13⟩
  have HF13 := hide (show Fr No w w13 by rw [hq13]; exact ((HFw5.out.tr HF12.out).alloc _).drewN nq13)
  clear hq13 HS12
  go_wp2_with (fail)
  go_ret
  exact ⟨rfl, HF13.out⟩
end Go.Proofs.Ytpopbkcbplmcaaa
namespace Go.Proofs.Ytpopbkcbplmcaaa
set_option linter.unusedVariables false
set_option linter.unusedSimpArgs false
open Go.RowKit

def lowW (m : Nat) : List Int := List.replicate m (-9223372036854775808)
def highW (m : Nat) : List Int := List.replicate m 9223372036854775807
theorem lowW_succ (m : Nat) : iz .i64 (lowW (m + 1)) = iz .i64 (lowW m) ++ [.int .i64 (-9223372036854775808)] := by simp [lowW, iz, List.replicate_succ']
theorem highW_succ (m : Nat) : iz .i64 (highW (m + 1)) = iz .i64 (highW m) ++ [.int .i64 9223372036854775807] := by simp [highW, iz, List.replicate_succ']
set_option maxRecDepth 100000 in
set_option maxHeartbeats 2000000 in
theorem whole_any (m : Nat) (hm : m ≤ 4) (w : World) : Calls Try.prog 11 #[.int .i64 (m : Nat)] w (fun en w' => ∃ A1 c1 A2 c2, en = .returned (.tuple #[.slice A1 m c1, .slice A2 m c2]) ∧ Own w' w.heap.size 2 1 (.slice A1 m c1) m (iz .i64 (lowW m)) ∧ Own w' w.heap.size 2 1 (.slice A2 m c2) m (iz .i64 (highW m)) ∧ Fr No w w') := by
  obtain ⟨i0, hi, hz, hsz, hby⟩ := info_parts Try.infoKI64
  go_enter Try.func11, Try.ntmps11
  go_wp2_with (fail)
  go_loopg [4, 5, 6] m (fun gk v1 v2 i wr => ∃ k : Nat, k + gk = m ∧ i = .int .i64 (k : Nat) ∧ Hid (Own wr w.heap.size 2 1 v1 k (iz .i64 (lowW k))) ∧ Hid (Own wr w.heap.size 2 1 v2 k (iz .i64 (highW k))) ∧ Hid (∀ j, v1.ownBlock = some j → v2.ownBlock ≠ some j) ∧ Hid (Fr No w wr))
  case atStart => exact ⟨0, by omega, rfl, hide (Own.nil _ _ _ _), hide (Own.nil _ _ _ _), hide (fun j h => by cases h), hide (Fr.refl _ _)⟩
  case round =>
    obtain ⟨k, hk, rfl, HO1, HO2, HAp, HF⟩ := hrel
    obtain ⟨wo, rfl⟩ : ∃ wo : World, wo = wr := ⟨_, rfl⟩
    obtain ⟨A1, c1, rfl, p1, p2, _⟩ := HO1.out.form
    obtain ⟨A2, c2, rfl, q1, q2, _⟩ := HO2.out.form
    by_cases hlk : k < m
    · obtain ⟨g', rfl⟩ : ∃ g', gk = g' + 1 := ⟨gk - 1, by omega⟩
      have HK := hide hk
      have b1 : (k + 1) * 8 ≤ 140737488355328 := by omega
      have b2 : k + 1 ≤ maxLen := by unfold maxLen; omega
      have HS1 := hide (Src.one (P := Try.prog) wo (e := 2) Try.underlying23 (.int .i64 (-9223372036854775808)) rfl)
      have HO1a := hide (HO1.out.fr0 ((Fr.refl No wo).alloc (.cells #[.int .i64 (-9223372036854775808)] 2)))
      have HO2a := hide (HO2.out.fr0 ((Fr.refl No wo).alloc (.cells #[.int .i64 (-9223372036854775808)] 2)))
      have HFa := hide (HF.out.alloc (.cells #[.int .i64 (-9223372036854775808)] 2))
      have hza : w.heap.size ≤ (wo.alloc (.cells #[.int .i64 (-9223372036854775808)] 2)).heap.size := HFa.out.size
      unfold maxLen at p2 q2
      clear hk
      go_wp2_with (first
        | (at_builtin; refine wpList_append_gen _ rfl (.tmp 12) (.tmp 13) 23 23 rfl w.heap.size 2 i0 (.int .i64 0) 1 8 Try.underlying23 hi hz hsz hby rfl _ k _ rfl HO1a.out _ 1 [.int .i64 (-9223372036854775808)] rfl HS1.out b1 b2 hza ?_; intro v3 w3 o3 f3 hat; have HO3 := hide o3; have HO23 := hide (HO2a.out.fr f3 (fun j hj e => HAp.out j e hj)); have HAp3 : Hid (∀ j, v3.ownBlock = some j → (Value.slice A2 k c2).ownBlock ≠ some j) := hide (fun j hj e => by rcases hat with h | h; exact HAp.out j (h ▸ hj) e; exact absurd ((HO2a.out.lt j e).2) (by have h2 := h.symm.trans hj; injection h2 with h2; omega)); have HF3 := hide (HFa.out.own f3 (fun g hg => .inl (HO1a.out.lt g hg).1)); have HS3 := hide (Src.one (P := Try.prog) w3 (e := 2) Try.underlying23 (.int .i64 9223372036854775807) rfl); have HO23a := hide (HO23.out.fr0 ((Fr.refl No w3).alloc (.cells #[.int .i64 9223372036854775807] 2))); have HO3a := hide (HO3.out.fr0 ((Fr.refl No w3).alloc (.cells #[.int .i64 9223372036854775807] 2))); have HF3a := hide (HF3.out.alloc (.cells #[.int .i64 9223372036854775807] 2)); have hz3 : w.heap.size ≤ (w3.alloc (.cells #[.int .i64 9223372036854775807] 2)).heap.size := HF3a.out.size; clear o3 f3 hat hza HO1a HO1 HS1)
        | (at_builtin; refine wpList_append_gen _ rfl (.tmp 15) (.tmp 16) 23 23 rfl w.heap.size 2 i0 (.int .i64 0) 1 8 Try.underlying23 hi hz hsz hby rfl _ k _ rfl HO23a.out _ 1 [.int .i64 9223372036854775807] rfl HS3.out b1 b2 hz3 ?_; intro v4 w4 o4 f4 hat; have HO4 := hide o4; have HO34 := hide (HO3a.out.fr f4 (fun j hj e => HAp3.out j hj e)); have HAp4 : Hid (∀ j, v3.ownBlock = some j → v4.ownBlock ≠ some j) := hide (fun j hj e => by rcases hat with h | h; exact HAp3.out j hj (h ▸ e); exact absurd ((HO3a.out.lt j hj).2) (by have h2 := h.symm.trans e; injection h2 with h2; omega)); have HF4 := hide (HF3a.out.own f4 (fun g hg => .inl (HO23a.out.lt g hg).1)); clear o4 f4 hat))
      go_roundg g'
      case measure => omega
      case rel => exact ⟨k + 1, by have := HK.out; omega, by go_num, hide (by rw [lowW_succ]; exact HO34.out), hide (by rw [highW_succ]; exact HO4.out), HAp4, HF4⟩
    · obtain rfl : k = m := by omega
      clear hk
      go_wp2_with (fail)
      go_ret2
      exact ⟨A1, c1, A2, c2, rfl, HO1.out, HO2.out, HF.out⟩
end Go.Proofs.Ytpopbkcbplmcaaa
namespace Go.Proofs.Ytpopbkcbplmcaaa
set_option linter.unusedVariables false
set_option linter.unusedSimpArgs false
open Go.RowKit

theorem Try.infoEInt : (Try.prog.info? 3).map (fun i => (i.zero, i.size, i.bytes)) = some (some (.int .i64 0), 1, 8) := by kernel_rfl
theorem Try.infoSInt : (Try.prog.info? 40).map (fun i => (i.zero, i.size, i.bytes)) = some (some (.slice none 0 0), 1, 24) := by kernel_rfl
def mk1Int (j n : Nat) : List Value := (List.range n).map fun k : Nat => .int .i64 (1000 * (j : Int) + (k : Int))
def mk2Int (j : Nat) : List Value := (List.range 30).map fun k : Nat => .int .i64 (500000 + 1000 * (j : Int) + (k : Int))
theorem mk1Int_at {j n k : Nat} (h : k < n) : (mk1Int j n)[k]? = some (.int .i64 (1000 * (j : Int) + (k : Int))) := by simp [mk1Int, List.getElem?_range h]
theorem mk2Int_at {j k : Nat} (h : k < 30) : (mk2Int j)[k]? = some (.int .i64 (500000 + 1000 * (j : Int) + (k : Int))) := by simp [mk2Int, List.getElem?_range h]
theorem mk1Int_len (j n : Nat) : (mk1Int j n).length = n := by simp [mk1Int]
theorem mk2Int_len (j : Nat) : (mk2Int j).length = 30 := by simp [mk2Int]
section
variable (q m d : Nat) (A : Nat → Option Addr) (N C : Nat → Nat) (cs : Array Value) (W : World)
set_option maxRecDepth 100000 in
set_option maxHeartbeats 3200000 in
theorem apartInt_any (base : Nat) (Z : Nat → List Value) (hm : m ≤ 100000) (hN : ∀ j, j < m → N j ≤ 2097152) (hd : m ≤ d) (hd2 : d ≤ maxLen) (hq : W.heap[q]? = some (.cells cs 40 (0, 0))) (hcs : ∀ j, j < m → cs[j]? = some (.slice (A j) (N j) (C j)))
    (ho : Owns W base 3 m A N C Z) (ha : Apart m A N C) :
    Calls Try.prog 18 #[.slice (some ⟨q, 0, none⟩) m d] W (fun en w' => en = .returned (.bool true) ∧ Fr (Blocks m A N C) W w') := by
  unfold maxLen at hd2
  have HO := hide ho
  have HQ := hide hq
  have HCS := hide hcs
  have HN := hide hN
  have HA := hide ha
  clear ho hq hcs hN ha
  go_enter Try.func18, Try.ntmps18
  go_wp2
  go_loopw [3, 4] (fun i _ wr => ∃ (i' : Nat) (Z' : Nat → List Value), i' ≤ m ∧ i = .int .i64 i' ∧ Hid (Owns wr base 3 m A N C Z') ∧ Hid (∀ j, j < i' → Z' j = mk1Int j (N j)) ∧ Hid (Fr (Blocks m A N C) W wr) ∧ Hid (wr.heap[q]? = some (.cells cs 40 (0, 0)))) (fun i _ _ => m - (intOf i).toNat)
  case atStart => exact ⟨0, Z, by omega, rfl, HO, hide (fun j h => by omega), hide (Fr.refl _ _), HQ⟩
  case round =>
    obtain ⟨i, Z1, hi, rfl, O1, M1, F1, Q1⟩ := hrel
    obtain ⟨wo, rfl⟩ : ∃ wo : World, wo = wr := ⟨_, rfl⟩
    by_cases hlt : i < m
    · have hNi := HN.out i hlt
      have HCI := hide (HCS.out i hlt)
      go_wp2
      go_loopw [4] (fun k' wr => ∃ (k : Nat) (Z' : Nat → List Value), k ≤ N i ∧ k' = .int .i64 k ∧ Hid (Owns wr base 3 m A N C Z') ∧ Hid (∀ j, j < i → Z' j = mk1Int j (N j)) ∧ Hid ((Z' i).take k = (mk1Int i (N i)).take k) ∧ Hid (Fr (Blocks m A N C) W wr) ∧ Hid (wr.heap[q]? = some (.cells cs 40 (0, 0)))) (fun k' _ => N i - (intOf k').toNat)
      case atStart => exact ⟨0, Z1, by omega, rfl, O1, M1, hide rfl, F1, Q1⟩
      case round =>
        obtain ⟨k, Z2, hk, rfl, O2, M2, T2, F2, Q2⟩ := hrel
        have hci := cell_of_row wr q i cs 40 (0, 0) Q2.out
        rw [HCI.out] at hci
        by_cases hkl : k < N i
        · obtain ⟨g, hAi, hgl, hcell, hfz, hne, hst⟩ := O2.out.store HA.out hlt hkl
          rw [hAi] at hci
          have HST := hide hst
          have HNE := hide (hne q cs _ _ Q2.out (by decide))
          clear hst hne
          obtain ⟨u0, hu0⟩ : ∃ u, (Z2 i)[k]? = some u := ⟨_, List.getElem?_eq_getElem (by have := (O2.out i hlt).1; omega)⟩
          rw [hu0] at hcell
          have HAi := hide hAi
          obtain ⟨v, hv⟩ : ∃ v : Int, v = 1000 * (i : Int) + (k : Int) := ⟨_, rfl⟩
          have ev : 1000 * (i : Int) + (k : Int) = v := hv.symm
          have hv0 : 0 ≤ v := by omega
          have hv1 : v ≤ 200000000 := by omega
          have HMk : Hid ((mk1Int i (N i))[k]? = some (.int .i64 v)) := hide (by rw [hv]; exact mk1Int_at hkl)
          clear hv
          have HT := hide (take_set_snoc T2.out HMk.out (by have := (O2.out i hlt).1; omega))
          clear hAi hu0
          go_wp2
          go_roundw
          case rel => exact ⟨k + 1, _, by omega, by go_num, hide (HST.out _).1, hide (fun j hj => by rw [upd_other _ _ (by omega)]; exact M2.out j hj), hide (by rw [upd_same]; exact HT.out), hide (F2.out.ts (HST.out _).2), hide ((Fr.refl (Is g) wr).setCell (p := ⟨g, k, none⟩) (fun _ => rfl) _ |>.blk Q2.out (fun e => HNE.out e.symm))⟩
          case measure => simp [intOf]; omega
        · have hkN : k = N i := by omega
          go_wp2
          go_roundw
          case rel =>
            refine ⟨i + 1, Z2, by omega, by go_num, O2, hide (fun j hj => ?_), F2, Q2⟩
            by_cases hji : j = i
            · subst hji
              have h := T2.out
              rwa [List.take_of_length_le (by have := (O2.out j hlt).1; omega), List.take_of_length_le (by rw [mk1Int_len]; omega)] at h
            · exact M2.out j (by omega)
          case measure => simp [intOf]; omega
    · have O2 : Hid (∀ j, j < m → Own wo 0 3 1 (.slice (A j) (N j) (C j)) (N j) (mk1Int j (N j))) := fun j hj => by
        have h := O1.out j hj
        rw [M1.out j (by omega)] at h
        exact h.lower (Nat.zero_le _)
      have LT : Hid (∀ j, j < m → ∀ k, (Value.slice (A j) (N j) (C j)).ownBlock = some k → k < W.heap.size) := fun j hj k hk => ((HO.out j hj).lt k hk).2
      have QW : Hid (q < W.heap.size) := (Array.getElem?_eq_some_iff.1 HQ.out).1
      have QN : Hid (∀ j, j < m → (Value.slice (A j) (N j) (C j)).ownBlock ≠ some q) := fun j hj hk => (HO.out j hj).ne_blk hk HQ.out (by decide)
      have hW := F1.out.size
      obtain ⟨i1, hi1, hz1, hs1, hb1⟩ := info_parts Try.infoEInt
      obtain ⟨i2, hi2, hz2, hs2, hb2⟩ := info_parts Try.infoSInt
      clear O1 M1 HO HQ
      go_wp2
      go_loopw [5, 6, 7, 8] (fun more i' _ _ wr => ∃ (i : Nat) (L : Nat → Value), i ≤ m ∧ i' = .int .i64 i ∧ Hid (Own wr W.heap.size 40 1 more i ((List.range i).map L))
          ∧ Hid (∀ j, i ≤ j → j < m → Own wr 0 3 1 (.slice (A j) (N j) (C j)) (N j) (mk1Int j (N j)))
          ∧ Hid (∀ j, j < m → Rd wr W.heap.size (A j) (mk1Int j (N j)))
          ∧ Hid (∀ j, j < i → Own wr 0 3 1 (L j) (N j + 30) (mk1Int j (N j) ++ mk2Int j))
          ∧ Hid (∀ j, j < i → ∀ j', i ≤ j' → j' < m → ∀ k, (Value.slice (A j') (N j') (C j')).ownBlock = some k → (L j).ownBlock ≠ some k)
          ∧ Hid (Fr (Blocks m A N C) W wr) ∧ Hid (wr.heap[q]? = some (.cells cs 40 (0, 0)))) (fun _ i _ _ _ => m - (intOf i).toNat)
      case atStart =>
        refine ⟨0, fun _ => undef, by omega, rfl, hide (Own.nil _ _ _ _), hide (fun j _ hj => O2.out j hj), hide (fun j hj => ?_), hide (fun j hj => by omega), hide (fun j hj => by omega), F1, Q1⟩
        have h := (O2.out j hj).rd
        intro x u hu
        obtain ⟨ad, e, hb, hc⟩ := h x u hu
        exact ⟨ad, e, LT.out j hj _ (by rw [e]; rfl), hc⟩
      case round =>
        obtain ⟨i, L, hi, rfl, OM, OV, RV, OL, DL, FW, QQ⟩ := hrel
        obtain ⟨wi, rfl⟩ : ∃ wi : World, wi = wr := ⟨_, rfl⟩
        clear hlt
        by_cases hlt : i < m
        · have hNi := HN.out i hlt
          have hci := cell_of_row wi q i cs 40 (0, 0) QQ.out
          rw [HCS.out i hlt] at hci
          have hWi := FW.out.size
          have AI := hide (OV.out i (Nat.le_refl _) hlt).mem
          go_wp2
          go_loopw [7, 8] (fun l k' wr => ∃ (k : Nat), k ≤ 30 ∧ k' = .int .i64 k ∧ Hid (Own wr 0 3 1 l (N i + k) (mk1Int i (N i) ++ (mk2Int i).take k))
              ∧ Hid (l.ownBlock = (Value.slice (A i) (N i) (C i)).ownBlock ∨ ∀ g, l.ownBlock = some g → wi.heap.size ≤ g)
              ∧ Hid (Rd wr W.heap.size (A i) (mk1Int i (N i))) ∧ Hid (Fr (fun k => (Value.slice (A i) (N i) (C i)).ownBlock = some k) wi wr)) (fun _ k' _ => 30 - (intOf k').toNat)
          case atStart => exact ⟨0, by omega, rfl, hide (by simpa using OV.out i (Nat.le_refl _) hlt), hide (.inl rfl), hide (RV.out i hlt), hide (Fr.refl _ _)⟩
          case round =>
            obtain ⟨k, hk, rfl, I1, I2, I3, I4⟩ := hrel
            by_cases hkl : k < 30
            · obtain ⟨v, hv⟩ : ∃ v : Int, v = 500000 + 1000 * (i : Int) + (k : Int) := ⟨_, rfl⟩
              have ev : 500000 + 1000 * (i : Int) + (k : Int) = v := hv.symm
              have hv0 : 0 ≤ v := by omega
              have hv1 : v ≤ 200000000 := by omega
              have HMk : Hid ((mk2Int i)[k]? = some (.int .i64 v)) := hide (by rw [hv]; exact mk2Int_at hkl)
              clear hv
              have HS := hide (Src.one (P := Try.prog) wr (e := 3) Try.underlying40 (.int .i64 v) rfl)
              have I1' := hide (I1.out.fr0 ((Fr.refl No wr).alloc (.cells #[.int .i64 v] 3)))
              have b1 : (N i + k + 1) * 8 ≤ 140737488355328 := by omega
              have b2 : N i + k + 1 ≤ maxLen := by unfold maxLen; omega
              go_wp2_with (at_builtin; refine wpList_append_two _ rfl (.tmp 52) (.tmp 58) 40 40 rfl 0 3 i1 (.int .i64 0) 1 8 Try.underlying40 hi1 hz1 hs1 hb1 rfl u7 (N i + k) _ rfl I1'.out _ 1 [.int .i64 v] rfl HS.out b1 b2 (Nat.zero_le _) ?_; intro v' w' hown hat; have ON := hide hown; have HAT := hide hat; clear hown hat)
              go_roundw
              case rel =>
                have h5 := ON.out
                rw [List.append_assoc, take_snoc_at HMk.out] at h5
                have h6 := apart_step hWi (LT.out i hlt) (by
                  rcases AI.out with ⟨h, h0⟩ | h
                  · exact .inl ⟨h, by rw [h0]; rfl⟩
                  · exact .inr h) I2.out I3.out I4.out h5 HAT.out
                exact ⟨k + 1, by omega, by go_num, hide h5, hide h6.1, hide h6.2.1, hide h6.2.2⟩
              case measure => simp [intOf]; omega
            · obtain rfl : k = 30 := by omega
              obtain ⟨Al, cl, rfl, hl1, hl2, _⟩ := I1.out.form
              have HS := hide (Src.one (P := Try.prog) wr (e := 40) Try.underlying49 (.slice Al (N i + 30) cl) rfl)
              have FO : Hid (Fr (fun k => (Value.slice (A i) (N i) (C i)).ownBlock = some k) wi (wr.alloc (.cells #[.slice Al (N i + 30) cl] 40))) := I4.out.alloc _
              have OM' : Hid (Own (wr.alloc (.cells #[.slice Al (N i + 30) cl] 40)) W.heap.size 40 1 u5 i ((List.range i).map L)) := OM.out.fr FO.out (fun g hg hk => by
                have := (OM.out.lt g hg).1
                have := LT.out i hlt g hk
                omega)
              have b1 : (i + 1) * 24 ≤ 140737488355328 := by omega
              have b2 : i + 1 ≤ maxLen := by unfold maxLen; omega
              have b3 : W.heap.size ≤ (wr.alloc (.cells #[.slice Al (N i + 30) cl] 40)).heap.size := Nat.le_trans hWi FO.out.size
              go_wp2_with (at_builtin; refine wpList_append_gen _ rfl (.tmp 60) (.tmp 62) 49 49 rfl W.heap.size 40 i2 (.slice none 0 0) 1 24 Try.underlying49 hi2 hz2 hs2 hb2 rfl u5 i _ rfl OM'.out _ 1 [.slice Al (N i + 30) cl] rfl HS.out b1 b2 b3 ?_; intro v' w' hown hfr hat; have ON := hide hown; have FN := hide hfr; clear hown hfr hat)
              go_roundw
              case rel =>
                have hmw : ∀ g, u5.ownBlock = some g → W.heap.size ≤ g := fun g hg => (OM'.out.lt g hg).1
                have hl : Own (wr.alloc (.cells #[.slice Al (N i + 30) cl] 40)) 0 3 1 (.slice Al (N i + 30) cl) (N i + 30) (mk1Int i (N i) ++ mk2Int i) := by
                  have h := I1.out
                  rw [List.take_of_length_le (by rw [mk2Int_len]; omega)] at h
                  exact h.fr0 ((Fr.refl No wr).alloc _)
                refine ⟨i + 1, updV L i (.slice Al (N i + 30) cl), by omega, by go_num, hide (by rw [← map_snoc]; exact ON.out), hide ?_, hide ?_, hide ?_, hide ?_, hide ?_, hide ?_⟩
                · intro j hij hj
                  refine ((OV.out j (by omega) hj).fr FO.out ?_).fr FN.out ?_
                  · intro g hg hk
                    exact HA.out.dis i j hlt hj (by omega) g hk hg
                  · intro g hg hk
                    have := LT.out j hj g hg
                    have := hmw g hk
                    omega
                · intro j hj
                  have h1 : Rd (wr.alloc (.cells #[.slice Al (N i + 30) cl] 40)) W.heap.size (A j) (mk1Int j (N j)) := by
                    by_cases hji : j = i
                    · subst hji
                      exact I3.out.fr0 ((Fr.refl No wr).alloc _)
                    · refine (RV.out j hj).fr2 FO.out ?_
                      intro ad had hk
                      exact HA.out.dis i j hlt hj (fun e => hji e.symm) _ hk (by rw [had]; rfl)
                  refine h1.fr2 FN.out ?_
                  intro ad had hk
                  have := LT.out j hj ad.block (by rw [had]; rfl)
                  have := hmw _ hk
                  omega
                · intro j hj
                  by_cases hji : j = i
                  · subst hji
                    rw [updV_same]
                    exact hl.fr FN.out (fun g hg hk => hl.ne_own OM'.out (by decide) hk hg)
                  · rw [updV_other _ _ hji]
                    have h1 := (OL.out j (by omega)).fr FO.out (fun g hg hk => DL.out j (by omega) i (Nat.le_refl _) hlt g hk hg)
                    exact h1.fr FN.out (fun g hg hk => h1.ne_own OM'.out (by decide) hk hg)
                · intro j hj j' hij hj' k hk
                  by_cases hji : j = i
                  · subst hji
                    rw [updV_same]
                    rcases I2.out with h2 | h2
                    · rw [h2]
                      exact fun h => HA.out.dis j j' hlt hj' (by omega) k h hk
                    · intro h
                      have := h2 k h
                      have := LT.out j' hj' k hk
                      omega
                  · rw [updV_other _ _ hji]
                    exact DL.out j (by omega) j' (by omega) hj' k hk
                · refine (FW.out.trans FO.out (fun k _ hk => ⟨i, hlt, hk⟩)).trans FN.out ?_
                  intro k hk h
                  have := hmw k h
                  omega
                · refine FN.out.blk (FO.out.blk QQ.out (QN.out i hlt)) ?_
                  intro h
                  have := hmw q h
                  have := QW.out
                  omega
              case measure => simp [intOf]; omega
        · obtain rfl : m = i := by omega
          clear DL OV hW LT QW QN
          obtain ⟨AM, cM, rfl, hM1, hM2, _, hMR, _⟩ := OM.out.form
          unfold maxLen at hM2
          have MR := hide hMR
          clear hMR OM
          go_wp2
          go_loop [9, 10, 11, 12] (fun i' _ _ _ => ∃ i : Nat, i ≤ m ∧ i' = .int .i64 i) (fun i' _ _ _ => m - (intOf i').toNat)
          case atStart => exact ⟨0, by omega, rfl⟩
          case round =>
            obtain ⟨i, hi2', rfl⟩ := hrel
            clear hlt
            by_cases hlt : i < m
            · have hNi := HN.out i hlt
              have hci := cell_of_row wi q i cs 40 (0, 0) QQ.out
              rw [HCS.out i hlt] at hci
              obtain ⟨Al, cl, hLi, hl1, hl2, _, hLR, _⟩ := (OL.out i hlt).form
              unfold maxLen at hl2
              obtain ⟨am, rfl, _, hmc⟩ := MR.out i (L i) (by simp [List.getElem?_range hlt])
              rw [hLi] at hmc
              have LR := hide hLR
              clear hLR hLi
              go_wp2
              go_loop [11] (fun k' => ∃ k : Nat, k ≤ N i ∧ k' = .int .i64 k) (fun k' => N i - (intOf k').toNat)
              case atStart => exact ⟨0, by omega, rfl⟩
              case round =>
                obtain ⟨k, hk, rfl⟩ := hrel
                by_cases hkl : k < N i
                · obtain ⟨v, hv⟩ : ∃ v : Int, v = 1000 * (i : Int) + (k : Int) := ⟨_, rfl⟩
                  have ev : 1000 * (i : Int) + (k : Int) = v := hv.symm
                  have hv0 : 0 ≤ v := by omega
                  have hv1 : v ≤ 200000000 := by omega
                  have HMk : Hid ((mk1Int i (N i))[k]? = some (.int .i64 v)) := hide (by rw [hv]; exact mk1Int_at hkl)
                  clear hv
                  obtain ⟨ad, hAi, _, hc1⟩ := RV.out i hlt k _ HMk.out
                  obtain ⟨bd, rfl, _, hc2⟩ := LR.out k (.int .i64 v) (by rw [List.getElem?_append_left (by rw [mk1Int_len]; exact hkl)]; exact HMk.out)
                  rw [hAi] at hci
                  have hb : (v != v) = false := by simp
                  clear hAi
                  go_wp2
                  go_round
                  case rel => exact ⟨k + 1, by omega, by go_num⟩
                  case measure => simp [intOf]; omega
                · go_wp2
                  go_loop [12] (fun k' => ∃ k : Nat, k ≤ 30 ∧ k' = .int .i64 k) (fun k' => 30 - (intOf k').toNat)
                  case atStart => exact ⟨0, by omega, rfl⟩
                  case round =>
                    clear hkl hk
                    obtain ⟨k, hk, rfl⟩ := hrel
                    by_cases hkl : k < 30
                    · obtain ⟨v, hv⟩ : ∃ v : Int, v = 500000 + 1000 * (i : Int) + (k : Int) := ⟨_, rfl⟩
                      have ev : 500000 + 1000 * (i : Int) + (k : Int) = v := hv.symm
                      have hv0 : 0 ≤ v := by omega
                      have hv1 : v ≤ 200000000 := by omega
                      have HMk : Hid ((mk2Int i)[k]? = some (.int .i64 v)) := hide (by rw [hv]; exact mk2Int_at hkl)
                      clear hv
                      obtain ⟨bd, rfl, _, hc2⟩ := LR.out (N i + k) (.int .i64 v) (by
                        rw [List.getElem?_append_right (by rw [mk1Int_len]; omega), mk1Int_len, Nat.add_sub_cancel_left]
                        exact HMk.out)
                      have hb : (v != v) = false := by simp
                      have t1 : ((N i : Int) + (k : Int)).toNat = N i + k := by omega
                      go_wp2
                      go_round
                      case rel => exact ⟨k + 1, by omega, by go_num⟩
                      case measure => simp [intOf]; omega
                    · go_wp2
                      go_round
                      case rel => exact ⟨i + 1, by omega, by go_num⟩
                      case measure => simp [intOf]; omega
            · go_wp2
              go_ret
              exact ⟨rfl, FW.out⟩
end
end Go.Proofs.Ytpopbkcbplmcaaa
namespace Go.Proofs.Ytpopbkcbplmcaaa
set_option linter.unusedVariables false
set_option linter.unusedSimpArgs false
open Go.RowKit

theorem Try.infoEI64 : (Try.prog.info? 2).map (fun i => (i.zero, i.size, i.bytes)) = some (some (.int .i64 0), 1, 8) := by kernel_rfl
theorem Try.infoSI64 : (Try.prog.info? 23).map (fun i => (i.zero, i.size, i.bytes)) = some (some (.slice none 0 0), 1, 24) := by kernel_rfl
def mk1I64 (j n : Nat) : List Value := (List.range n).map fun k : Nat => .int .i64 (1000 * (j : Int) + (k : Int))
def mk2I64 (j : Nat) : List Value := (List.range 30).map fun k : Nat => .int .i64 (500000 + 1000 * (j : Int) + (k : Int))
theorem mk1I64_at {j n k : Nat} (h : k < n) : (mk1I64 j n)[k]? = some (.int .i64 (1000 * (j : Int) + (k : Int))) := by simp [mk1I64, List.getElem?_range h]
theorem mk2I64_at {j k : Nat} (h : k < 30) : (mk2I64 j)[k]? = some (.int .i64 (500000 + 1000 * (j : Int) + (k : Int))) := by simp [mk2I64, List.getElem?_range h]
theorem mk1I64_len (j n : Nat) : (mk1I64 j n).length = n := by simp [mk1I64]
theorem mk2I64_len (j : Nat) : (mk2I64 j).length = 30 := by simp [mk2I64]
section
variable (q m d : Nat) (A : Nat → Option Addr) (N C : Nat → Nat) (cs : Array Value) (W : World)
set_option maxRecDepth 100000 in
set_option maxHeartbeats 3200000 in
theorem apartI64_any (base : Nat) (Z : Nat → List Value) (hm : m ≤ 100000) (hN : ∀ j, j < m → N j ≤ 2097152) (hd : m ≤ d) (hd2 : d ≤ maxLen) (hq : W.heap[q]? = some (.cells cs 23 (0, 0))) (hcs : ∀ j, j < m → cs[j]? = some (.slice (A j) (N j) (C j)))
    (ho : Owns W base 2 m A N C Z) (ha : Apart m A N C) :
    Calls Try.prog 19 #[.slice (some ⟨q, 0, none⟩) m d] W (fun en w' => en = .returned (.bool true) ∧ Fr (Blocks m A N C) W w') := by
  unfold maxLen at hd2
  have HO := hide ho
  have HQ := hide hq
  have HCS := hide hcs
  have HN := hide hN
  have HA := hide ha
  clear ho hq hcs hN ha
  go_enter Try.func19, Try.ntmps19
  go_wp2
  go_loopw [3, 4] (fun i _ wr => ∃ (i' : Nat) (Z' : Nat → List Value), i' ≤ m ∧ i = .int .i64 i' ∧ Hid (Owns wr base 2 m A N C Z') ∧ Hid (∀ j, j < i' → Z' j = mk1I64 j (N j)) ∧ Hid (Fr (Blocks m A N C) W wr) ∧ Hid (wr.heap[q]? = some (.cells cs 23 (0, 0)))) (fun i _ _ => m - (intOf i).toNat)
  case atStart => exact ⟨0, Z, by omega, rfl, HO, hide (fun j h => by omega), hide (Fr.refl _ _), HQ⟩
  case round =>
    obtain ⟨i, Z1, hi, rfl, O1, M1, F1, Q1⟩ := hrel
    obtain ⟨wo, rfl⟩ : ∃ wo : World, wo = wr := ⟨_, rfl⟩
    by_cases hlt : i < m
    · have hNi := HN.out i hlt
      have HCI := hide (HCS.out i hlt)
      go_wp2
      go_loopw [4] (fun k' wr => ∃ (k : Nat) (Z' : Nat → List Value), k ≤ N i ∧ k' = .int .i64 k ∧ Hid (Owns wr base 2 m A N C Z') ∧ Hid (∀ j, j < i → Z' j = mk1I64 j (N j)) ∧ Hid ((Z' i).take k = (mk1I64 i (N i)).take k) ∧ Hid (Fr (Blocks m A N C) W wr) ∧ Hid (wr.heap[q]? = some (.cells cs 23 (0, 0)))) (fun k' _ => N i - (intOf k').toNat)
      case atStart => exact ⟨0, Z1, by omega, rfl, O1, M1, hide rfl, F1, Q1⟩
      case round =>
        obtain ⟨k, Z2, hk, rfl, O2, M2, T2, F2, Q2⟩ := hrel
        have hci := cell_of_row wr q i cs 23 (0, 0) Q2.out
        rw [HCI.out] at hci
        by_cases hkl : k < N i
        · obtain ⟨g, hAi, hgl, hcell, hfz, hne, hst⟩ := O2.out.store HA.out hlt hkl
          rw [hAi] at hci
          have HST := hide hst
          have HNE := hide (hne q cs _ _ Q2.out (by decide))
          clear hst hne
          obtain ⟨u0, hu0⟩ : ∃ u, (Z2 i)[k]? = some u := ⟨_, List.getElem?_eq_getElem (by have := (O2.out i hlt).1; omega)⟩
          rw [hu0] at hcell
          have HAi := hide hAi
          obtain ⟨v, hv⟩ : ∃ v : Int, v = 1000 * (i : Int) + (k : Int) := ⟨_, rfl⟩
          have ev : 1000 * (i : Int) + (k : Int) = v := hv.symm
          have hv0 : 0 ≤ v := by omega
          have hv1 : v ≤ 200000000 := by omega
          have HMk : Hid ((mk1I64 i (N i))[k]? = some (.int .i64 v)) := hide (by rw [hv]; exact mk1I64_at hkl)
          clear hv
          have HT := hide (take_set_snoc T2.out HMk.out (by have := (O2.out i hlt).1; omega))
          clear hAi hu0
          go_wp2
          go_roundw
          case rel => exact ⟨k + 1, _, by omega, by go_num, hide (HST.out _).1, hide (fun j hj => by rw [upd_other _ _ (by omega)]; exact M2.out j hj), hide (by rw [upd_same]; exact HT.out), hide (F2.out.ts (HST.out _).2), hide ((Fr.refl (Is g) wr).setCell (p := ⟨g, k, none⟩) (fun _ => rfl) _ |>.blk Q2.out (fun e => HNE.out e.symm))⟩
          case measure => simp [intOf]; omega
        · have hkN : k = N i := by omega
          go_wp2
          go_roundw
          case rel =>
            refine ⟨i + 1, Z2, by omega, by go_num, O2, hide (fun j hj => ?_), F2, Q2⟩
            by_cases hji : j = i
            · subst hji
              have h := T2.out
              rwa [List.take_of_length_le (by have := (O2.out j hlt).1; omega), List.take_of_length_le (by rw [mk1I64_len]; omega)] at h
            · exact M2.out j (by omega)
          case measure => simp [intOf]; omega
    · have O2 : Hid (∀ j, j < m → Own wo 0 2 1 (.slice (A j) (N j) (C j)) (N j) (mk1I64 j (N j))) := fun j hj => by
        have h := O1.out j hj
        rw [M1.out j (by omega)] at h
        exact h.lower (Nat.zero_le _)
      have LT : Hid (∀ j, j < m → ∀ k, (Value.slice (A j) (N j) (C j)).ownBlock = some k → k < W.heap.size) := fun j hj k hk => ((HO.out j hj).lt k hk).2
      have QW : Hid (q < W.heap.size) := (Array.getElem?_eq_some_iff.1 HQ.out).1
      have QN : Hid (∀ j, j < m → (Value.slice (A j) (N j) (C j)).ownBlock ≠ some q) := fun j hj hk => (HO.out j hj).ne_blk hk HQ.out (by decide)
      have hW := F1.out.size
      obtain ⟨i1, hi1, hz1, hs1, hb1⟩ := info_parts Try.infoEI64
      obtain ⟨i2, hi2, hz2, hs2, hb2⟩ := info_parts Try.infoSI64
      clear O1 M1 HO HQ
      go_wp2
      go_loopw [5, 6, 7, 8] (fun more i' _ _ wr => ∃ (i : Nat) (L : Nat → Value), i ≤ m ∧ i' = .int .i64 i ∧ Hid (Own wr W.heap.size 23 1 more i ((List.range i).map L))
          ∧ Hid (∀ j, i ≤ j → j < m → Own wr 0 2 1 (.slice (A j) (N j) (C j)) (N j) (mk1I64 j (N j)))
          ∧ Hid (∀ j, j < m → Rd wr W.heap.size (A j) (mk1I64 j (N j)))
          ∧ Hid (∀ j, j < i → Own wr 0 2 1 (L j) (N j + 30) (mk1I64 j (N j) ++ mk2I64 j))
          ∧ Hid (∀ j, j < i → ∀ j', i ≤ j' → j' < m → ∀ k, (Value.slice (A j') (N j') (C j')).ownBlock = some k → (L j).ownBlock ≠ some k)
          ∧ Hid (Fr (Blocks m A N C) W wr) ∧ Hid (wr.heap[q]? = some (.cells cs 23 (0, 0)))) (fun _ i _ _ _ => m - (intOf i).toNat)
      case atStart =>
        refine ⟨0, fun _ => undef, by omega, rfl, hide (Own.nil _ _ _ _), hide (fun j _ hj => O2.out j hj), hide (fun j hj => ?_), hide (fun j hj => by omega), hide (fun j hj => by omega), F1, Q1⟩
        have h := (O2.out j hj).rd
        intro x u hu
        obtain ⟨ad, e, hb, hc⟩ := h x u hu
        exact ⟨ad, e, LT.out j hj _ (by rw [e]; rfl), hc⟩
      case round =>
        obtain ⟨i, L, hi, rfl, OM, OV, RV, OL, DL, FW, QQ⟩ := hrel
        obtain ⟨wi, rfl⟩ : ∃ wi : World, wi = wr := ⟨_, rfl⟩
        clear hlt
        by_cases hlt : i < m
        · have hNi := HN.out i hlt
          have hci := cell_of_row wi q i cs 23 (0, 0) QQ.out
          rw [HCS.out i hlt] at hci
          have hWi := FW.out.size
          have AI := hide (OV.out i (Nat.le_refl _) hlt).mem
          go_wp2
          go_loopw [7, 8] (fun l k' wr => ∃ (k : Nat), k ≤ 30 ∧ k' = .int .i64 k ∧ Hid (Own wr 0 2 1 l (N i + k) (mk1I64 i (N i) ++ (mk2I64 i).take k))
              ∧ Hid (l.ownBlock = (Value.slice (A i) (N i) (C i)).ownBlock ∨ ∀ g, l.ownBlock = some g → wi.heap.size ≤ g)
              ∧ Hid (Rd wr W.heap.size (A i) (mk1I64 i (N i))) ∧ Hid (Fr (fun k => (Value.slice (A i) (N i) (C i)).ownBlock = some k) wi wr)) (fun _ k' _ => 30 - (intOf k').toNat)
          case atStart => exact ⟨0, by omega, rfl, hide (by simpa using OV.out i (Nat.le_refl _) hlt), hide (.inl rfl), hide (RV.out i hlt), hide (Fr.refl _ _)⟩
          case round =>
            obtain ⟨k, hk, rfl, I1, I2, I3, I4⟩ := hrel
            by_cases hkl : k < 30
            · obtain ⟨v, hv⟩ : ∃ v : Int, v = 500000 + 1000 * (i : Int) + (k : Int) := ⟨_, rfl⟩
              have ev : 500000 + 1000 * (i : Int) + (k : Int) = v := hv.symm
              have hv0 : 0 ≤ v := by omega
              have hv1 : v ≤ 200000000 := by omega
              have HMk : Hid ((mk2I64 i)[k]? = some (.int .i64 v)) := hide (by rw [hv]; exact mk2I64_at hkl)
              clear hv
              have HS := hide (Src.one (P := Try.prog) wr (e := 2) Try.underlying23 (.int .i64 v) rfl)
              have I1' := hide (I1.out.fr0 ((Fr.refl No wr).alloc (.cells #[.int .i64 v] 2)))
              have b1 : (N i + k + 1) * 8 ≤ 140737488355328 := by omega
              have b2 : N i + k + 1 ≤ maxLen := by unfold maxLen; omega
              go_wp2_with (at_builtin; refine wpList_append_two _ rfl (.tmp 52) (.tmp 58) 23 23 rfl 0 2 i1 (.int .i64 0) 1 8 Try.underlying23 hi1 hz1 hs1 hb1 rfl u7 (N i + k) _ rfl I1'.out _ 1 [.int .i64 v] rfl HS.out b1 b2 (Nat.zero_le _) ?_; intro v' w' hown hat; have ON := hide hown; have HAT := hide hat; clear hown hat)
              go_roundw
              case rel =>
                have h5 := ON.out
                rw [List.append_assoc, take_snoc_at HMk.out] at h5
                have h6 := apart_step hWi (LT.out i hlt) (by
                  rcases AI.out with ⟨h, h0⟩ | h
                  · exact .inl ⟨h, by rw [h0]; rfl⟩
                  · exact .inr h) I2.out I3.out I4.out h5 HAT.out
                exact ⟨k + 1, by omega, by go_num, hide h5, hide h6.1, hide h6.2.1, hide h6.2.2⟩
              case measure => simp [intOf]; omega
            · obtain rfl : k = 30 := by omega
              obtain ⟨Al, cl, rfl, hl1, hl2, _⟩ := I1.out.form
              have HS := hide (Src.one (P := Try.prog) wr (e := 23) Try.underlying51 (.slice Al (N i + 30) cl) rfl)
              have FO : Hid (Fr (fun k => (Value.slice (A i) (N i) (C i)).ownBlock = some k) wi (wr.alloc (.cells #[.slice Al (N i + 30) cl] 23))) := I4.out.alloc _
              have OM' : Hid (Own (wr.alloc (.cells #[.slice Al (N i + 30) cl] 23)) W.heap.size 23 1 u5 i ((List.range i).map L)) := OM.out.fr FO.out (fun g hg hk => by
                have := (OM.out.lt g hg).1
                have := LT.out i hlt g hk
                omega)
              have b1 : (i + 1) * 24 ≤ 140737488355328 := by omega
              have b2 : i + 1 ≤ maxLen := by unfold maxLen; omega
              have b3 : W.heap.size ≤ (wr.alloc (.cells #[.slice Al (N i + 30) cl] 23)).heap.size := Nat.le_trans hWi FO.out.size
              go_wp2_with (at_builtin; refine wpList_append_gen _ rfl (.tmp 60) (.tmp 62) 51 51 rfl W.heap.size 23 i2 (.slice none 0 0) 1 24 Try.underlying51 hi2 hz2 hs2 hb2 rfl u5 i _ rfl OM'.out _ 1 [.slice Al (N i + 30) cl] rfl HS.out b1 b2 b3 ?_; intro v' w' hown hfr hat; have ON := hide hown; have FN := hide hfr; clear hown hfr hat)
              go_roundw
              case rel =>
                have hmw : ∀ g, u5.ownBlock = some g → W.heap.size ≤ g := fun g hg => (OM'.out.lt g hg).1
                have hl : Own (wr.alloc (.cells #[.slice Al (N i + 30) cl] 23)) 0 2 1 (.slice Al (N i + 30) cl) (N i + 30) (mk1I64 i (N i) ++ mk2I64 i) := by
                  have h := I1.out
                  rw [List.take_of_length_le (by rw [mk2I64_len]; omega)] at h
                  exact h.fr0 ((Fr.refl No wr).alloc _)
                refine ⟨i + 1, updV L i (.slice Al (N i + 30) cl), by omega, by go_num, hide (by rw [← map_snoc]; exact ON.out), hide ?_, hide ?_, hide ?_, hide ?_, hide ?_, hide ?_⟩
                · intro j hij hj
                  refine ((OV.out j (by omega) hj).fr FO.out ?_).fr FN.out ?_
                  · intro g hg hk
                    exact HA.out.dis i j hlt hj (by omega) g hk hg
                  · intro g hg hk
                    have := LT.out j hj g hg
                    have := hmw g hk
                    omega
                · intro j hj
                  have h1 : Rd (wr.alloc (.cells #[.slice Al (N i + 30) cl] 23)) W.heap.size (A j) (mk1I64 j (N j)) := by
                    by_cases hji : j = i
                    · subst hji
                      exact I3.out.fr0 ((Fr.refl No wr).alloc _)
                    · refine (RV.out j hj).fr2 FO.out ?_
                      intro ad had hk
                      exact HA.out.dis i j hlt hj (fun e => hji e.symm) _ hk (by rw [had]; rfl)
                  refine h1.fr2 FN.out ?_
                  intro ad had hk
                  have := LT.out j hj ad.block (by rw [had]; rfl)
                  have := hmw _ hk
                  omega
                · intro j hj
                  by_cases hji : j = i
                  · subst hji
                    rw [updV_same]
                    exact hl.fr FN.out (fun g hg hk => hl.ne_own OM'.out (by decide) hk hg)
                  · rw [updV_other _ _ hji]
                    have h1 := (OL.out j (by omega)).fr FO.out (fun g hg hk => DL.out j (by omega) i (Nat.le_refl _) hlt g hk hg)
                    exact h1.fr FN.out (fun g hg hk => h1.ne_own OM'.out (by decide) hk hg)
                · intro j hj j' hij hj' k hk
                  by_cases hji : j = i
                  · subst hji
                    rw [updV_same]
                    rcases I2.out with h2 | h2
                    · rw [h2]
                      exact fun h => HA.out.dis j j' hlt hj' (by omega) k h hk
                    · intro h
                      have := h2 k h
                      have := LT.out j' hj' k hk
                      omega
                  · rw [updV_other _ _ hji]
                    exact DL.out j (by omega) j' (by omega) hj' k hk
                · refine (FW.out.trans FO.out (fun k _ hk => ⟨i, hlt, hk⟩)).trans FN.out ?_
                  intro k hk h
                  have := hmw k h
                  omega
                · refine FN.out.blk (FO.out.blk QQ.out (QN.out i hlt)) ?_
                  intro h
                  have := hmw q h
                  have := QW.out
                  omega
              case measure => simp [intOf]; omega
        · obtain rfl : m = i := by omega
          clear DL OV hW LT QW QN
          obtain ⟨AM, cM, rfl, hM1, hM2, _, hMR, _⟩ := OM.out.form
          unfold maxLen at hM2
          have MR := hide hMR
          clear hMR OM
          go_wp2
          go_loop [9, 10, 11, 12] (fun i' _ _ _ => ∃ i : Nat, i ≤ m ∧ i' = .int .i64 i) (fun i' _ _ _ => m - (intOf i').toNat)
          case atStart => exact ⟨0, by omega, rfl⟩
          case round =>
            obtain ⟨i, hi2', rfl⟩ := hrel
            clear hlt
            by_cases hlt : i < m
            · have hNi := HN.out i hlt
              have hci := cell_of_row wi q i cs 23 (0, 0) QQ.out
              rw [HCS.out i hlt] at hci
              obtain ⟨Al, cl, hLi, hl1, hl2, _, hLR, _⟩ := (OL.out i hlt).form
              unfold maxLen at hl2
              obtain ⟨am, rfl, _, hmc⟩ := MR.out i (L i) (by simp [List.getElem?_range hlt])
              rw [hLi] at hmc
              have LR := hide hLR
              clear hLR hLi
              go_wp2
              go_loop [11] (fun k' => ∃ k : Nat, k ≤ N i ∧ k' = .int .i64 k) (fun k' => N i - (intOf k').toNat)
              case atStart => exact ⟨0, by omega, rfl⟩
              case round =>
                obtain ⟨k, hk, rfl⟩ := hrel
                by_cases hkl : k < N i
                · obtain ⟨v, hv⟩ : ∃ v : Int, v = 1000 * (i : Int) + (k : Int) := ⟨_, rfl⟩
                  have ev : 1000 * (i : Int) + (k : Int) = v := hv.symm
                  have hv0 : 0 ≤ v := by omega
                  have hv1 : v ≤ 200000000 := by omega
                  have HMk : Hid ((mk1I64 i (N i))[k]? = some (.int .i64 v)) := hide (by rw [hv]; exact mk1I64_at hkl)
                  clear hv
                  obtain ⟨ad, hAi, _, hc1⟩ := RV.out i hlt k _ HMk.out
                  obtain ⟨bd, rfl, _, hc2⟩ := LR.out k (.int .i64 v) (by rw [List.getElem?_append_left (by rw [mk1I64_len]; exact hkl)]; exact HMk.out)
                  rw [hAi] at hci
                  have hb : (v != v) = false := by simp
                  clear hAi
                  go_wp2
                  go_round
                  case rel => exact ⟨k + 1, by omega, by go_num⟩
                  case measure => simp [intOf]; omega
                · go_wp2
                  go_loop [12] (fun k' => ∃ k : Nat, k ≤ 30 ∧ k' = .int .i64 k) (fun k' => 30 - (intOf k').toNat)
                  case atStart => exact ⟨0, by omega, rfl⟩
                  case round =>
                    clear hkl hk
                    obtain ⟨k, hk, rfl⟩ := hrel
                    by_cases hkl : k < 30
                    · obtain ⟨v, hv⟩ : ∃ v : Int, v = 500000 + 1000 * (i : Int) + (k : Int) := ⟨_, rfl⟩
                      have ev : 500000 + 1000 * (i : Int) + (k : Int) = v := hv.symm
                      have hv0 : 0 ≤ v := by omega
                      have hv1 : v ≤ 200000000 := by omega
                      have HMk : Hid ((mk2I64 i)[k]? = some (.int .i64 v)) := hide (by rw [hv]; exact mk2I64_at hkl)
                      clear hv
                      obtain ⟨bd, rfl, _, hc2⟩ := LR.out (N i + k) (.int .i64 v) (by
                        rw [List.getElem?_append_right (by rw [mk1I64_len]; omega), mk1I64_len, Nat.add_sub_cancel_left]
                        exact HMk.out)
                      have hb : (v != v) = false := by simp
                      have t1 : ((N i : Int) + (k : Int)).toNat = N i + k := by omega
                      go_wp2
                      go_round
                      case rel => exact ⟨k + 1, by omega, by go_num⟩
                      case measure => simp [intOf]; omega
                    · go_wp2
                      go_round
                      case rel => exact ⟨i + 1, by omega, by go_num⟩
                      case measure => simp [intOf]; omega
            · go_wp2
              go_ret
              exact ⟨rfl, FW.out⟩
end
end Go.Proofs.Ytpopbkcbplmcaaa
