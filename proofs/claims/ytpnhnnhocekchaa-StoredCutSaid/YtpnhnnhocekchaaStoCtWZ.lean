/- The walk of StoredCut: it answers true; nothing that was there has changed. -/
import Derived.Test.YtpnhnnhocekchaaK17
namespace Go.Proofs.Ytpnhnnhocekchaa
set_option linter.unusedVariables false
set_option linter.unusedSimpArgs false
open Go.RowKit

theorem OpenOk.cnt {bs : List UInt8} {ks : List (Nat × Nat)} {cs : List ChV} (h : OpenOk bs ks cs) : cntC cs = cutsB (docsC cs) := by
  obtain ⟨m1, m2⟩ := h.may
  have h2 : OpenOk (buildB (docsC cs)) ks cs := by rw [h.form]; exact h
  exact (OpenOk.of_build m1 m2 h2).2
set_option maxRecDepth 100000 in
set_option maxHeartbeats 4000000 in
theorem storedcut_any (A : Option Addr) (n c B : Nat) (ds : List (List EntV)) (at_ : Int) (x : UInt8) (w : World) (hl : ds.length = n) (hn : n ≤ c) (hc : c ≤ maxLen) (hc2 : n * 24 ≤ 140737488351232) (hi : DocsI ds) (hds : ∀ d ∈ ds, (d.length + 1) * 56 ≤ 140737488355328 ∧ ∀ e ∈ d, (e.ns.length + 1) * 8 ≤ 140737488355328) (hB : B ≤ w.heap.size) (hr : RdD w B A ds) (ha1 : -9223372036854775808 ≤ at_) (ha2 : at_ ≤ 9223372036854775807) :
    Calls Try.prog 10 #[.slice A n c, .int .i64 at_, .int .u8 (x.toNat : Nat)] w (RetB true w) := by
  obtain ⟨iD, hiD, hzD, hsD, hbD⟩ := info_parts info_doc2
  obtain ⟨i5, hi5, hz5, hsz5, hby5⟩ := info_parts Try.info5
  have HL := hide hl
  have HI := hide hi
  have HLent := hide (fun (W : World) (hW : Fr No w W) => lentD_any A n c B ds W hl hn hc (by omega) hds (Nat.le_trans hB hW.size) (hr.fr0 hW))
  have hble := buildB_le ds
  obtain ⟨bs, hbs⟩ : ∃ bs, bs = buildB ds := ⟨_, rfl⟩
  have HBs := hide hbs
  rw [← hbs] at hble
  obtain ⟨m, hm⟩ : ∃ m, m = bs.length := ⟨_, rfl⟩
  have HM := hide hm
  rw [← hm] at hble
  have hcn : n ≤ 9223372036854775807 := by unfold maxLen at hc; omega
  have HKn := hide known11_any
  clear hl hn hc hc2 hi hds hB hr hbs hm
  go_enter Try.func10, Try.ntmps10
  go_wp2_with (fail)
  refine (HKn.out w).mono ?_
  rintro en w0 ⟨rfl, hfr⟩
  have HF0 : Hid (Fr No w w0) := hide hfr
  clear hfr
  go_wp2_with (fail)
  refine (HLent.out w0 HF0.out).mono ?_
  rintro en w1 ⟨v1, rfl, hlt, hfr⟩
  obtain ⟨A1, c1, rfl, x1, x2, _⟩ := (show ∃ A1 c1, v1 = .slice A1 ds.length c1 ∧ ds.length ≤ c1 ∧ c1 ≤ maxLen ∧ True by obtain ⟨_, _, ho, _⟩ := hlt; obtain ⟨A1, c1, e, y1, y2, _⟩ := ho.form; exact ⟨A1, c1, e, y1, y2, trivial⟩)
  rw [HL.out] at x1 hlt ⊢
  have HBu := hide (build_any A1 n c1 _ ds w1 HL.out x1 x2 (Nat.le_refl _) hlt.rdD)
  have HF1 : Hid (Fr No w w1) := hide (HF0.out.tr hfr)
  clear hlt hfr x1 x2
  go_wp2_with (fail)
  refine HBu.out.mono ?_
  rintro en w2 ⟨v2, rfl, hown, hfr⟩
  rw [← HBs.out, ← HM.out] at hown
  obtain ⟨A2, c2, rfl, x3, x4, _⟩ := hown.form
  have HO2 := hide hown
  have HF2 : Hid (Fr No w w2) := hide (HF1.out.tr hfr)
  have HX2 := hide (And.intro x3 x4)
  clear hown hfr HBu
  by_cases hmay : mayB ds
  · have HMay := hide hmay
    have hm1 : 1 ≤ m := by rw [HM.out, HBs.out]; exact buildB_pos hmay
    have hm0 : ¬ (m : Int) = 0 := by omega
    have hm0N : ¬ m = 0 := by omega
    obtain ⟨r, hr⟩ : ∃ r, at_.tmod (m : Int) = r := ⟨_, rfl⟩
    have hrb : -(m : Int) < r ∧ r < m := by
      rw [← hr]
      have h1 := Int.tmod_lt_of_pos at_ (show (0 : Int) < m by omega)
      have h2 := Int.tmod_lt_of_pos (-at_) (show (0 : Int) < m by omega)
      rw [Int.neg_tmod] at h2
      omega
    obtain ⟨hr1, hr2⟩ := hrb
    clear hmay
    obtain ⟨kk, hkk, hkm⟩ : ∃ kk : Nat, (if r < 0 then r + (m : Int) else r) = (kk : Int) ∧ kk < m := by
      by_cases h : r < 0
      · exact ⟨(r + m).toNat, by rw [if_pos h]; omega, by omega⟩
      · exact ⟨r.toNat, by rw [if_neg h]; omega, by omega⟩
    have HKk := hide hkk
    clear hkk
    go_upto_if 32 with (fail)
    refine wp_named fun K hK => ?_
    go_cut [8] from 26 to 36 (fun v wx => v = .int .i64 kk ∧ wx = w2)
    case first =>
      by_cases hneg : r < 0
      · have HN := hide hneg
        go_wp2
        go_meet
        exact ⟨by rw [← HKk.out, if_pos HN.out], rfl⟩
      · have HN := hide hneg
        go_wp2
        go_meet
        exact ⟨by rw [← HKk.out, if_neg (Int.not_lt.2 HN.out)], rfl⟩
    case rest =>
      obtain ⟨rfl, rfl⟩ := hcut
      refine hK _ _ ?_
      clear hK K hr
      have hkc : kk ≤ c2 := by omega
      have hc2m : c2 ≤ 9223372036854775807 := by unfold maxLen at x4; exact x4
      have hbt : (bs.take kk).length = kk := by rw [List.length_take, ← HM.out]; omega
      have HL1 := hide (lent8_any A2 kk c2 _ (bs.take kk) wc hbt (by omega) (by rw [by8_take]; exact HO2.out.rd.tk kk))
      have HBt := hide hbt
      have HL2 := hide (fun (W : World) (f : Fr No wc W) => lent8_any A2 m c2 _ bs W HM.out.symm (by omega) (HO2.out.fr0 f).rd)
      clear hbt
      go_wp2_with (fail)
      refine HL1.out.mono ?_
      rintro en w3 ⟨A3, c3, rfl, hown, hfr⟩
      rw [HBt.out] at hown ⊢
      have q3 := hown.le
      have HF3 : Hid (Fr No wc w3) := hide hfr
      have hrd : Rd w3 w3.heap.size A3 (by8 (bs.take kk)) := by
        have h := hown.rd.tk kk
        rw [← by8_take, List.take_append_of_le_length (by rw [HBt.out]; exact Nat.le_refl _), List.take_of_length_le (by rw [HBt.out]; exact Nat.le_refl _)] at h
        exact h
      have HOp3 := hide (callsIn_wide.1 (open_in 6 (Nat.le_refl _) kk c3 A3 (bs.take kk) _ w3 HBt.out (by omega) q3.2.2 (by omega) (Nat.le_refl _) hrd))
      clear hown hfr hrd q3 HL1
      go_wp2_with (fail)
      refine HOp3.out.mono ?_
      rintro en w4 ⟨p, e, rfl, hfr, hp⟩
      obtain ⟨rfl, rfl⟩ : p = none ∧ e = 20 := by
        rcases hp with ⟨ks, cs, g, h1, _⟩ | ⟨_, h⟩
        · rw [HBs.out] at h1
          exact absurd h1 (cut_bad HMay.out HI.out (by rw [← HBs.out, ← HM.out]; exact hkm) _ _)
        · exact h
      have HF4 : Hid (Fr No wc w4) := hide (HF3.out.tr hfr)
      clear hfr hp HOp3
      go_wp2_with (fail)
      refine (HL2.out w4 HF4.out).mono ?_
      rintro en w5 ⟨A5, c5, rfl, hown, hfr⟩
      rw [← HM.out] at hown ⊢
      have q5 := hown.le
      have hcutO := hown.cut (k := m) (c' := c5) (by omega) (Nat.le_refl _) (by omega)
      rw [Nat.mul_one, ← by8_take, List.take_append_of_le_length (by rw [← HM.out]; exact Nat.le_refl _), List.take_of_length_le (by rw [← HM.out]; exact Nat.le_refl _)] at hcutO
      have HF5 : Hid (Fr No wc w5) := hide (HF4.out.tr hfr)
      have f5 : Fr No w5 (w5.alloc (.cells #[.int .u8 (x.toNat : Nat)] 5)) := (Fr.refl No w5).alloc _
      have HO5 := hide (hcutO.fr0 f5)
      have HS5 := hide (Src.one (P := Try.prog) w5 (e := 5) Try.underlying23 (.int .u8 (x.toNat : Nat)) rfl)
      have HF5b : Hid (Fr No wc (w5.alloc (.cells #[.int .u8 (x.toNat : Nat)] 5))) := hide (HF5.out.tr f5)
      have b1 : (m + 1) * 1 ≤ 140737488355328 := by omega
      have b2 : m + 1 ≤ maxLen := by unfold maxLen; omega
      have b3 : w4.heap.size ≤ (w5.alloc (.cells #[.int .u8 (x.toNat : Nat)] 5)).heap.size := Nat.le_trans hfr.size f5.size
      clear hown hfr q5 hcutO f5
      go_wp2_with (first | (at_builtin; refine wpList_append_gen _ rfl (.tmp 47) (.tmp 49) 23 23 rfl w4.heap.size 5 i5 (.int .u8 0) 1 1 Try.underlying23 hi5 hz5 hsz5 hby5 rfl (.slice A5 m c5) m (by8 bs) rfl HO5.out _ 1 [.int .u8 (x.toNat : Nat)] rfl HS5.out b1 b2 b3 ?_; intro v6 w6 hown hfr hat; obtain ⟨A6, c6, rfl, y1, y2, _⟩ := hown.form; have HO6 := hide hown; have HF6 : Hid (Fr No wc w6) := hide (HF5b.out.own hfr (fun k hk => .inl (Nat.le_trans HF4.out.size (HO5.out.lt k hk).1))); have HX6 := hide (And.intro y1 y2); clear hown hfr hat y1 y2) | fail)
      have HOp6 := hide (callsIn_wide.1 (open_in 6 (Nat.le_refl _) (m + 1) c6 A6 (bs ++ [x]) _ w6 (by rw [List.length_append, ← HM.out]; rfl) HX6.out.1 HX6.out.2 (by omega) (Nat.le_refl _) (by rw [by8_append]; exact HO6.out.rd)))
      refine HOp6.out.mono ?_
      rintro en w7 ⟨p, e, rfl, hfr, hp⟩
      obtain ⟨rfl, rfl⟩ : p = none ∧ e = 20 := by
        rcases hp with ⟨ks, cs, g, h1, _⟩ | ⟨_, h⟩
        · rw [HBs.out] at h1
          exact absurd h1 (more_bad HMay.out HI.out _ _)
        · exact h
      have HF7 : Hid (Fr No wc w7) := hide (HF6.out.tr hfr)
      clear hfr hp HOp6
      go_wp2_with (fail)
      refine (HL2.out w7 HF7.out).mono ?_
      rintro en w8 ⟨A8, c8, rfl, hown, hfr⟩
      rw [← HM.out] at hown ⊢
      have q8 := hown.le
      have hcutO := hown.cut (k := m) (c' := c8) (by omega) (Nat.le_refl _) (by omega)
      rw [Nat.mul_one, ← by8_take, List.take_append_of_le_length (by rw [← HM.out]; exact Nat.le_refl _), List.take_of_length_le (by rw [← HM.out]; exact Nat.le_refl _)] at hcutO
      have HF8 : Hid (Fr No wc w8) := hide (HF7.out.tr hfr)
      have HC8 := hide (show m ≤ c8 ∧ c8 ≤ maxLen from ⟨by omega, q8.2.2⟩)
      obtain ⟨g8, rfl, hb8, hlt8, hcell8, hfz8, hst8⟩ := hcutO.store hkm
      have hcell8' : w8.cell? ⟨g8, kk, none⟩ = some (.int .u8 ((bs.getD kk 0).toNat : Nat)) := by
        rw [hcell8]
        unfold by8
        rw [List.getElem?_map, List.getD_eq_getElem?_getD, List.getElem?_eq_getElem (by rw [← HM.out]; exact hkm)]
        rfl
      have hset : (by8 bs).set kk (.int .u8 (x.toNat : Nat)) = by8 (bs.set kk x) := by unfold by8; rw [List.map_set]
      have hO9 := hst8 (.int .u8 (x.toNat : Nat))
      rw [hset] at hO9
      have f9 : Fr No wc (w8.setCell ⟨g8, kk, none⟩ (.int .u8 (x.toNat : Nat))) := HF8.out.setCell (p := ⟨g8, kk, none⟩) (fun h => by have h : g8 < wc.heap.size := h; have := HF7.out.size; omega) _
      obtain ⟨w9, hw9⟩ : ∃ w9, w9 = w8.setCell ⟨g8, kk, none⟩ (.int .u8 (x.toNat : Nat)) := ⟨_, rfl⟩
      rw [← hw9] at hO9 f9
      have hkm2 : (kk : Int) < (m : Int) := by omega
      obtain ⟨b9, hb9⟩ : ∃ b9, b9 = bs.set kk x := ⟨_, rfl⟩
      rw [← hb9] at hO9
      have hl9 : b9.length = m := by rw [hb9, List.length_set]; exact HM.out.symm
      have HO9 := hide hO9
      have HF9 := hide f9
      have HL9 := hide hl9
      have HW9 := hide hw9
      clear hown hfr q8 hcutO hcell8 hst8 hset hO9 f9 hw9 hb9 hl9
      have HOp9 := hide (callsIn_wide.1 (open_in 6 (Nat.le_refl _) m c8 (some ⟨g8, 0, none⟩) b9 _ w9 HL9.out HC8.out.1 HC8.out.2 (by omega) (Nat.le_refl _) HO9.out.rd))
      go_wp2_with (fail)
      rw [← HW9.out]
      refine HOp9.out.mono ?_
      rintro en w10 ⟨p, e, rfl, hfr, hp⟩
      have HF10 : Hid (Fr No w9 w10) := hide hfr
      have HO10 := hide (HO9.out.fr0 hfr)
      clear hfr hcell8' hfz8
      rcases hp with ⟨ks, cs, g, h1, rfl, rfl, hsto⟩ | ⟨_, rfl, rfl⟩
      · have HForm := hide h1.form
        have HCnt := hide h1.cnt
        have HMy := hide h1.may
        have HS10 := hide hsto
        obtain ⟨N, hN⟩ : ∃ N, N = (docsC cs).length := ⟨_, rfl⟩
        have hN16 : N ≤ 16384 := by rw [hN]; exact HMy.out.1.1
        have HNn := hide hN
        clear h1 hsto hN
        go_wp2_with (fail)
        go_loopw [16, 17, 18] (fun va ix _ wr => ∃ (q : Nat) (ps : List DocL), q ≤ N ∧ ix = .int .i64 q ∧ Hid (ps.length = q) ∧ Hid (ps.map (·.1) = (docsC cs).take q) ∧ Hid (OwnD wr w10.heap.size va ps) ∧ Hid (Fr No w10 wr)) (fun _ ix _ _ => N - (intOf ix).toNat)
        case atStart => exact ⟨0, [], by omega, rfl, hide rfl, hide rfl, hide (OwnD.nil _ _), hide (Fr.refl _ _)⟩
        case round =>
          obtain ⟨wo, rfl⟩ : ∃ wo : World, wo = wr := ⟨_, rfl⟩
          obtain ⟨q, ps, hq, rfl, HPl, HPd, HD, HFr⟩ := hrel
          have HSo := hide (HS10.out.fr0 HFr.out)
          have HLen := hide (show Calls Try.prog 45 #[.pointer (some ⟨g, 0, none⟩)] wo (Ret (.int .i64 (N : Nat)) wo) by have := len_sto HSo.out; rw [← HNn.out] at this; exact this)
          by_cases hlt : q < N
          · have HTk := hide (take_getD (l := docsC cs) (d := []) (q := q) (by rw [← HNn.out]; exact hlt))
            have HDoc := hide (callsIn_wide.1 (doc_in 6 (Nat.le_refl _) (w := wo) q HSo.out (sto_bounds HMy.out.1 HCnt.out).1 (fun c hc => Nat.le_trans ((sto_bounds HMy.out.1 HCnt.out).2 c hc) (by omega)) (by rw [← HNn.out]; exact hlt)))
            generalize (docsC cs).getD q [] = D at *
            obtain ⟨dn, hdn⟩ : ∃ dn, dn = D.length := ⟨_, rfl⟩
            have HDn := hide hdn
            clear hdn
            go_wp2_with (go_at_call 45; refine HLen.out.mono ?_; rintro en wz ⟨rfl, rfl⟩)
            refine HDoc.out.mono ?_
            rintro en w11 ⟨A11, c11, rfl, hoe, hfr⟩
            rw [← HDn.out]
            have hoe2 := hoe.lower HFr.out.size
            have f12 : Fr No wo (w11.alloc (.cells #[.slice A11 dn c11] 71)) := hfr.alloc _
            have HF12 : Hid (Fr No w10 (w11.alloc (.cells #[.slice A11 dn c11] 71))) := hide (HFr.out.tr f12)
            have HD12 := hide (HD.out.fr0 f12)
            have HOe12 := hide (hoe2.fr0 ((Fr.refl No w11).alloc (.cells #[.slice A11 dn c11] 71)))
            have hrow : Own (w11.alloc (.cells #[.slice A11 dn c11] 71)) w10.heap.size 71 1 u16 q (ps.map dVal) := by have h := HD12.out.row; rw [HPl.out] at h; exact h
            have HRow := hide hrow
            have HS12 := hide (Src.one (P := Try.prog) w11 (e := 71) Try.underlying57 (.slice A11 dn c11) rfl)
            have b1' : (q + 1) * 24 ≤ 140737488355328 := by omega
            have b2' : q + 1 ≤ maxLen := by unfold maxLen; omega
            have b3' : w10.heap.size ≤ (w11.alloc (.cells #[.slice A11 dn c11] 71)).heap.size := HF12.out.size
            clear hoe hfr hoe2 f12 hrow HDoc
            go_wp2_with (first | (at_builtin; refine wpList_append_gen _ rfl (.tmp 88) (.tmp 90) 57 57 rfl w10.heap.size 71 iD _ 1 24 Try.underlying57 hiD hzD hsD hbD rfl u16 q (ps.map dVal) rfl HRow.out _ 1 [.slice A11 dn c11] rfl HS12.out b1' b2' b3' ?_; intro v13 w13 hown hfr hat; have HO13 := hide hown; have HF13 := hide hfr; clear hown hfr hat) | fail)
            go_roundw
            case rel =>
              refine ⟨q + 1, ps ++ [(D, A11, c11)], by omega, by go_num, hide (by rw [List.length_append, HPl.out]; rfl), hide (by rw [List.map_append, HPd.out, HTk.out]; rfl), hide ?_, hide (HF12.out.own HF13.out (fun k hk => .inl (HRow.out.lt k hk).1))⟩
              refine HD12.out.snoc (p := (D, A11, c11)) HOe12.out HF13.out ?_
              rw [HPl.out]
              have e : dVal (D, A11, c11) = .slice A11 dn c11 := by unfold dVal; rw [← HDn.out]
              rw [e]
              exact HO13.out
            case measure => simp [intOf]; omega
          · obtain rfl : q = N := by omega
            have HAll : Hid (ps.map (·.1) = docsC cs) := hide (by rw [HPd.out, List.take_of_length_le (by rw [← HNn.out]; exact Nat.le_refl _)])
            obtain ⟨Aa, ca, rfl, y1, y2, _⟩ := HD.out.row.form
            rw [HPl.out] at y1 ⊢
            have HD2 := hide HD.out
            rw [HPl.out] at HD2
            have HBu := hide (build_any Aa q ca _ (docsC cs) wo HNn.out.symm y1 y2 (Nat.le_refl _) (by have h := HD2.out.rd; rw [HAll.out] at h; exact h))
            rw [HForm.out] at HBu
            clear hlt y1 y2
            go_wp2_with (go_at_call 45; refine HLen.out.mono ?_; rintro en wz ⟨rfl, rfl⟩)
            refine HBu.out.mono ?_
            rintro en w20 ⟨v20, rfl, hown, hfr⟩
            rw [HL9.out] at hown
            obtain ⟨A20, c20, rfl, x1, x2, _⟩ := hown.form
            have HKb := hide (kbytes_any A20 (some ⟨g8, 0, none⟩) m c20 m c8 _ _ b9 b9 w20 HL9.out HL9.out x1 x2 HC8.out.1 HC8.out.2 hown.rd ((HO10.out.fr0 HFr.out).fr0 hfr).rd)
            have HF20 : Hid (Fr No w w20) := hide ((((HF2.out.tr HF9.out).tr HF10.out).tr HFr.out).tr hfr)
            rw [decide_eq_true rfl] at HKb
            clear hown hfr x1 x2 HBu
            go_wp2_with (fail)
            refine HKb.out.mono ?_
            rintro en w21 ⟨rfl, q21, hq21⟩
            have HF21 : Hid (Fr No w w21) := hide (HF20.out.tr (fr_of_drewN hq21))
            clear hq21
            go_wp2
            go_ret
            exact ⟨rfl, HF21.out⟩
      · go_wp2
        go_ret
        exact ⟨rfl, (HF2.out.tr HF9.out).tr HF10.out⟩
  · have hm0 : m = 0 := by
      rw [HM.out, HBs.out]
      unfold buildB
      rw [if_neg hmay]
      rfl
    subst hm0
    clear hmay
    go_wp2
    go_ret
    exact ⟨rfl, HF2.out⟩
end Go.Proofs.Ytpnhnnhocekchaa
