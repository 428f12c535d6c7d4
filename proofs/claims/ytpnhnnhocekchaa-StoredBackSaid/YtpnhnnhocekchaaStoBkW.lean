/- The walk of StoredBack: it answers true; nothing that was there has changed. -/
import Derived.Test.YtpnhnnhocekchaaK16
namespace Go.Proofs.Ytpnhnnhocekchaa
set_option linter.unusedVariables false
set_option linter.unusedSimpArgs false
open Go.RowKit

theorem buildB_pos {ds : List (List EntV)} (h : mayB ds) : 1 ≤ (buildB ds).length := by
  unfold buildB
  rw [if_pos h]
  have := (enc_len ds.length).1
  simp only [List.length_append]
  omega
set_option maxRecDepth 100000 in
set_option maxHeartbeats 4000000 in
theorem storedback_any (A : Option Addr) (n c B : Nat) (ds : List (List EntV)) (w : World) (hl : ds.length = n) (hn : n ≤ c) (hc : c ≤ maxLen) (hc2 : n * 24 ≤ 140737488351232) (hi : DocsI ds) (hds : ∀ d ∈ ds, (d.length + 1) * 56 ≤ 140737488355328 ∧ ∀ e ∈ d, (e.ns.length + 1) * 8 ≤ 140737488355328) (hB : B ≤ w.heap.size) (hr : RdD w B A ds) :
    Calls Try.prog 13 #[.slice A n c] w (RetB true w) := by
  obtain ⟨iD, hiD, hzD, hsD, hbD⟩ := info_parts info_doc2
  have HL := hide hl
  have HN := hide hn
  have HC := hide hc
  have HI := hide hi
  have HR := hide hr
  have HB2 := hide hB
  have HLent := hide (fun (W : World) (hW : Fr No w W) => lentD_any A n c B ds W hl hn hc (by omega) hds (Nat.le_trans hB hW.size) (hr.fr0 hW))
  have hble := buildB_le ds
  obtain ⟨bs, hbs⟩ : ∃ bs, bs = buildB ds := ⟨_, rfl⟩
  have HBs := hide hbs
  rw [← hbs] at hble
  obtain ⟨m, hm⟩ : ∃ m, m = bs.length := ⟨_, rfl⟩
  have HM := hide hm
  rw [← hm] at hble
  have hcn : n ≤ 9223372036854775807 := by unfold maxLen at hc; omega
  have HKn := hide known11_any
  clear hl hn hc hc2 hi hds hB hr hbs hm
  go_enter Try.func13, Try.ntmps13
  go_wp2_with (fail)
  refine (HKn.out w).mono ?_
  rintro en w0 ⟨rfl, hfr⟩
  have HF0 : Hid (Fr No w w0) := hide hfr
  clear hfr
  go_wp2_with (fail)
  refine (HLent.out w0 HF0.out).mono ?_
  rintro en w1 ⟨v1, rfl, hlt, hfr⟩
  obtain ⟨A1, c1, rfl, x1, x2, _⟩ := (show ∃ A1 c1, v1 = .slice A1 ds.length c1 ∧ ds.length ≤ c1 ∧ c1 ≤ maxLen ∧ True by obtain ⟨_, _, ho, _⟩ := hlt; obtain ⟨A1, c1, e, y1, y2, _⟩ := ho.form; exact ⟨A1, c1, e, y1, y2, trivial⟩)
  rw [HL.out] at x1 hlt ⊢
  have HBu := hide (build_any A1 n c1 _ ds w1 HL.out x1 x2 (Nat.le_refl _) hlt.rdD)
  have HF1 : Hid (Fr No w w1) := hide (HF0.out.tr hfr)
  clear hlt hfr x1 x2
  go_wp2_with (fail)
  refine HBu.out.mono ?_
  rintro en w2 ⟨v2, rfl, hown, hfr⟩
  rw [← HBs.out, ← HM.out] at hown
  obtain ⟨A2, c2, rfl, x3, x4, _⟩ := hown.form
  have HO2 := hide hown
  have HF2 : Hid (Fr No w w2) := hide (HF1.out.tr hfr)
  have HX2 := hide (And.intro x3 x4)
  clear hown hfr x3 x4 HBu
  by_cases hmay : mayB ds
  · have HMay := hide hmay
    have hn16 : n ≤ 16384 := by have := hmay.1; rw [HL.out] at this; exact this
    have hm1 : 1 ≤ m := by rw [HM.out, HBs.out]; exact buildB_pos hmay
    have hm0 : ¬ (m : Int) = 0 := by omega
    have hm0N : ¬ m = 0 := by omega
    clear hmay
    go_wp2_with (fail)
    refine (callsIn_wide.1 (open_in 6 (Nat.le_refl _) m c2 A2 bs _ w2 HM.out.symm HX2.out.1 HX2.out.2 (by omega) (Nat.le_refl _) HO2.out.rd)).mono ?_
    rintro en w7 ⟨p, e, rfl, hfr, hp⟩
    have hok := open_of_build (bs := bs) HMay.out HI.out HBs.out.symm (by rw [← HM.out]; omega)
    have hp2 : ∃ cs g, p = some ⟨g, 0, none⟩ ∧ e = 0 ∧ StoM w7 w2.heap.size g cs ∧ docsC cs = ds ∧ cntC cs = cutsB ds := by
      rcases hp with ⟨ks, cs, g, h1, h2, h3, h4⟩ | ⟨h1, _⟩
      · rw [HBs.out] at h1
        exact ⟨cs, g, h2, h3, h4, OpenOk.of_build HMay.out HI.out h1⟩
      · exact absurd hok (h1 _ _)
    obtain ⟨cs, g, rfl, rfl, hsto, hdc, hcc⟩ := hp2
    have HS7 := hide hsto
    have HF7 : Hid (Fr No w w7) := hide (HF2.out.tr hfr)
    have HO7 := hide (HO2.out.fr0 hfr)
    have HDc := hide hdc
    have HCc := hide hcc
    clear hfr hp hok hsto hdc hcc
    have HLen := hide (show Calls Try.prog 45 #[.pointer (some ⟨g, 0, none⟩)] w7 (Ret (.int .i64 (n : Nat)) w7) by have := len_sto HS7.out; rw [HDc.out, HL.out] at this; exact this)
    go_wp2_with (go_at_call 45; refine HLen.out.mono ?_; rintro en wz ⟨rfl, rfl⟩)
    obtain ⟨w8, rfl⟩ : ∃ w8 : World, w8 = w7 := ⟨_, rfl⟩
    go_loopw [6, 7, 8] (fun va ix _ wr => ∃ (q : Nat) (ps : List DocL), q ≤ n ∧ ix = .int .i64 q ∧ Hid (ps.length = q) ∧ Hid (ps.map (·.1) = ds.take q) ∧ Hid (OwnD wr w8.heap.size va ps) ∧ Hid (Fr No w8 wr)) (fun _ ix _ _ => n - (intOf ix).toNat)
    case atStart => exact ⟨0, [], by omega, rfl, hide rfl, hide rfl, hide (OwnD.nil _ _), hide (Fr.refl _ _)⟩
    case round =>
      obtain ⟨wo, rfl⟩ : ∃ wo : World, wo = wr := ⟨_, rfl⟩
      obtain ⟨q, ps, hq, rfl, HPl, HPd, HD, HFr⟩ := hrel
      by_cases hlt : q < n
      · obtain ⟨ad, rfl, e0, R, dn, dc, e1, e2, e3, e4, e5⟩ := HR.out q (by rw [HL.out]; exact hlt)
        have HTk := hide (take_getD (l := ds) (d := []) (q := q) (by rw [HL.out]; exact hlt))
        have HDoc := hide (callsIn_wide.1 (doc_in 6 (Nat.le_refl _) (w := wo) q (HS7.out.fr0 HFr.out) (sto_bounds HMay.out HCc.out).1 (fun c hc => Nat.le_trans ((sto_bounds HMay.out HCc.out).2 c hc) (by omega)) (by rw [HDc.out, HL.out]; exact hlt)))
        rw [HDc.out] at HDoc
        generalize ds.getD q [] = D at *
        have HE1 := hide (((HF7.out.tr HFr.out)).cell e1 (fun h => h))
        have HE5 := hide (e5.fr0 (HF7.out.tr HFr.out))
        have HE3 := hide (And.intro e3 e4)
        have HE2 := hide e2
        clear e0 e1 e2 e3 e4 e5
        go_wp2_with (fail)
        refine HDoc.out.mono ?_
        rintro en w9 ⟨A9, c9, rfl, hoe, hfr⟩
        rw [HE2.out]
        have HF9 : Hid (Fr No w8 w9) := hide (HFr.out.tr hfr)
        have HD9 := hide (HD.out.fr0 hfr)
        have hoe2 := hoe.lower HFr.out.size
        have e1 := hfr.cell HE1.out (fun h => h)
        have q1 := hoe.le
        rw [HE2.out] at q1
        have HEn := hide (entries_any A9 R dn c9 dn dc _ _ D D w9 HE2.out HE2.out q1.1 q1.2 HE3.out.1 HE3.out.2 hoe.rd (HE5.out.fr0 hfr))
        rw [decide_eq_true rfl] at HEn
        have HOe := hide hoe2
        clear hoe hfr hoe2 q1 HDoc
        go_wp2_with (fail)
        refine HEn.out.mono ?_
        rintro en w10 ⟨rfl, q10, hq10⟩
        have f10 : Fr No w9 (w10.alloc (.cells #[.slice A9 dn c9] 71)) := (fr_of_drewN hq10).alloc _
        have HF10 : Hid (Fr No w8 (w10.alloc (.cells #[.slice A9 dn c9] 71))) := hide (HF9.out.tr f10)
        have HD10 := hide (HD9.out.fr0 f10)
        have HOe10 := hide (HOe.out.fr0 f10)
        have hrow : Own (w10.alloc (.cells #[.slice A9 dn c9] 71)) w8.heap.size 71 1 u6 q (ps.map dVal) := by have h := HD10.out.row; rw [HPl.out] at h; exact h
        have HRow := hide hrow
        have HS10 := hide (Src.one (P := Try.prog) w10 (e := 71) Try.underlying57 (.slice A9 dn c9) rfl)
        have b1 : (q + 1) * 24 ≤ 140737488355328 := by omega
        have b2 : q + 1 ≤ maxLen := by unfold maxLen; omega
        have b3 : w8.heap.size ≤ (w10.alloc (.cells #[.slice A9 dn c9] 71)).heap.size := HF10.out.size
        clear hq10 f10 hrow e1
        go_wp2_with (first | (at_builtin; refine wpList_append_gen _ rfl (.tmp 51) (.tmp 53) 57 57 rfl w8.heap.size 71 iD _ 1 24 Try.underlying57 hiD hzD hsD hbD rfl u6 q (ps.map dVal) rfl HRow.out _ 1 [.slice A9 dn c9] rfl HS10.out b1 b2 b3 ?_; intro v11 w11 hown hfr hat; have HO11 := hide hown; have HF11 := hide hfr; clear hown hfr hat) | fail)
        go_roundw
        case rel =>
          refine ⟨q + 1, ps ++ [(D, A9, c9)], by omega, by go_num, hide (by rw [List.length_append, HPl.out]; rfl), hide (by rw [List.map_append, HPd.out, HTk.out]; rfl), hide ?_, hide (HF10.out.own HF11.out (fun k hk => .inl (HRow.out.lt k hk).1))⟩
          refine HD10.out.snoc (p := (D, A9, c9)) HOe10.out HF11.out ?_
          rw [HPl.out]
          have e : dVal (D, A9, c9) = .slice A9 dn c9 := by unfold dVal; rw [HE2.out]
          rw [e]
          exact HO11.out
        case measure => simp [intOf]; omega
      · obtain rfl : q = n := by omega
        have HAll : Hid (ps.map (·.1) = ds) := hide (by rw [HPd.out, List.take_of_length_le (by rw [HL.out]; exact Nat.le_refl _)])
        obtain ⟨Aa, ca, rfl, y1, y2, _⟩ := HD.out.row.form
        rw [HPl.out] at y1 ⊢
        have HX6 := hide (And.intro y1 y2)
        have HD2 := hide HD.out
        rw [HPl.out] at HD2
        obtain ⟨mm, hmm⟩ : ∃ mm, mm = cs.length := ⟨_, rfl⟩
        have HMm := hide hmm
        have hmn : mm ≤ q := by
          have h1 := (cuts_cnt (ds := ds)).1
          have h2 := congrArg List.length HCc.out
          unfold cntC at h2
          rw [List.length_map] at h2
          rw [HL.out] at h1
          omega
        obtain ⟨wb, hwb⟩ : ∃ wb : World, wb = wo := ⟨_, rfl⟩
        have HFb : Hid (Fr No w8 wb) := hide (by rw [hwb]; exact HFr.out)
        have HDb : Hid (OwnD wb w8.heap.size (.slice Aa q ca) ps) := hide (by rw [hwb]; exact HD2.out)
        rw [← hwb]
        clear hlt y1 y2 hmm HD HD2 hwb HFr
        go_wp2_with (fail)
        go_loopw [9, 10, 11, 12] (fun va ix _ _ wr => ∃ k : Nat, k ≤ mm ∧ ix = .int .i64 k ∧ va = .int .i64 (cntB ((cutsB ds).take k) : Nat) ∧ Hid (Fr No wb wr)) (fun _ ix _ _ _ => mm - (intOf ix).toNat)
        case atStart => exact ⟨0, by omega, rfl, by simp [cntB], hide (Fr.refl _ _)⟩
        case round =>
          obtain ⟨wy, rfl⟩ : ∃ wy : World, wy = wr := ⟨_, rfl⟩
          obtain ⟨k, hk, rfl, rfl, HFk⟩ := hrel
          have HSk := hide (HS7.out.fr0 (HFb.out.tr HFk.out))
          have HChs := hide (show Calls Try.prog 46 #[.pointer (some ⟨g, 0, none⟩)] wy (Ret (.int .i64 (mm : Nat)) wy) by have := chunks_sto HSk.out; rw [← HMm.out] at this; exact this)
          by_cases hlt : k < mm
          · obtain ⟨x, hx⟩ : ∃ x, cs[k]? = some x := ⟨_, List.getElem?_eq_getElem (by rw [← HMm.out]; exact hlt)⟩
            have HCh := hide (chunk_sto HSk.out hx)
            have e1 : cntC (cs.take k) = (cutsB ds).take k := by unfold cntC; rw [← HCc.out, List.map_take]; rfl
            rw [e1] at HCh
            have hcx : (cutsB ds)[k]? = some (x.2.length, x.1) := by rw [← HCc.out]; unfold cntC; rw [List.getElem?_map, hx]; rfl
            have hcnt : cntB ((cutsB ds).take (k + 1)) = cntB ((cutsB ds).take k) + x.2.length := by rw [take_some hcx, cntB_snoc]
            have hpos : 1 ≤ x.2.length := ((cuts_cnt (ds := ds)).2 _ (List.mem_of_getElem? hcx)).1
            have hle : cntB ((cutsB ds).take (k + 1)) ≤ q := by
              have h1 := cutsB_cnt ds
              rw [HL.out] at h1
              have h2 : cntB (cutsB ds) = cntB ((cutsB ds).take (k + 1)) + cntB ((cutsB ds).drop (k + 1)) := by
                conv => lhs; rw [← List.take_append_drop (k + 1) (cutsB ds)]
                unfold cntB
                rw [List.map_append, List.sum_append]
              omega
            obtain ⟨t, ht⟩ : ∃ t, t = cntB ((cutsB ds).take k) := ⟨_, rfl⟩
            obtain ⟨y, hy⟩ : ∃ y, y = x.2.length := ⟨_, rfl⟩
            rw [← ht, ← hy] at HCh hcnt
            rw [← hy] at hpos
            have HCnt := hide hcnt
            rw [hcnt] at hle
            rw [← ht]
            have hty : ((t + y : Nat) : Int) = (t : Int) + (y : Int) := by omega
            rw [hty] at HCh
            have hd1 : decide ((t : Int) + (y : Int) ≤ (t : Int)) = false := decide_eq_false (by omega)
            clear hx e1 hcx ht hy hcnt hty
            go_wp2_with (first | (go_at_call 46; refine HChs.out.mono ?_; rintro en wz ⟨rfl, rfl⟩) | fail)
            refine HCh.out.mono ?_
            rintro en w9 ⟨rfl, q9, hq9⟩
            have HF9 : Hid (Fr No wb w9) := hide (HFk.out.tr (fr_of_drewN hq9))
            clear hq9
            go_wp2
            refine ⟨⟨k + 1, by omega, by go_num, ?_, HF9⟩, by simp [intOf]; omega⟩
            rw [HCnt.out]
            go_num
          · obtain rfl : k = mm := by omega
            have hend : cntB ((cutsB ds).take k) = q := by
              have h1 := cutsB_cnt ds
              have h2 := congrArg List.length HCc.out
              unfold cntC at h2
              rw [List.length_map] at h2
              rw [List.take_of_length_le (by have := HMm.out; omega), h1, HL.out]
            rw [hend]
            have hqq : ((q : Int) == (q : Int)) = true := by simp
            have HBu := hide (build_any Aa q ca _ ds wy HL.out HX6.out.1 HX6.out.2 (Nat.le_refl _) (by have h := (HDb.out.fr0 HFk.out).rd; rw [HAll.out] at h; exact h))
            clear hlt hend
            go_wp2_with (first | (go_at_call 46; refine HChs.out.mono ?_; rintro en wz ⟨rfl, rfl⟩) | fail)
            refine HBu.out.mono ?_
            rintro en w20 ⟨v20, rfl, hown, hfr⟩
            rw [← HBs.out, ← HM.out] at hown
            obtain ⟨A20, c20, rfl, x1, x2, _⟩ := hown.form
            have HKb := hide (kbytes_any A20 A2 m c20 m c2 _ _ bs bs w20 HM.out.symm HM.out.symm x1 x2 HX2.out.1 HX2.out.2 hown.rd (((HO7.out.fr0 HFb.out).fr0 HFk.out).fr0 hfr).rd)
            have HF20 : Hid (Fr No w w20) := hide (((HF7.out.tr HFb.out).tr HFk.out).tr hfr)
            rw [decide_eq_true rfl] at HKb
            clear hown hfr x1 x2 HBu
            go_wp2_with (fail)
            refine HKb.out.mono ?_
            rintro en w21 ⟨rfl, q21, hq21⟩
            have HF21 : Hid (Fr No w w21) := hide (HF20.out.tr (fr_of_drewN hq21))
            clear hq21
            go_wp2
            go_ret
            exact ⟨rfl, HF21.out⟩
  · have hm0 : m = 0 := by
      rw [HM.out, HBs.out]
      unfold buildB
      rw [if_neg hmay]
      rfl
    subst hm0
    clear hmay
    go_wp2
    go_ret
    exact ⟨rfl, HF2.out⟩
end Go.Proofs.Ytpnhnnhocekchaa
