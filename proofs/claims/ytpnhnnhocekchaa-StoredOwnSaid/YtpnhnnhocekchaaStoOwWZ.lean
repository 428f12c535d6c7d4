/- The walk of StoredOwn: it answers true; nothing that was there has changed. -/
import Derived.Test.YtpnhnnhocekchaaK20
namespace Go.Proofs.Ytpnhnnhocekchaa
set_option linter.unusedVariables false
set_option linter.unusedSimpArgs false
open Go.RowKit

theorem info_docS : (Try.prog.info? 76).map (fun i => (i.zero, i.size, i.bytes)) = some (some (.agg #[.slice none 0 0]), 1, 24) := by kernel_rfl
set_option maxRecDepth 100000 in
set_option maxHeartbeats 4000000 in
theorem storedown_any (A : Option Addr) (n c B : Nat) (ds : List (List EntV)) (w : World) (hl : ds.length = n) (hn : n ≤ c) (hc : c ≤ maxLen) (hc2 : n * 24 ≤ 140737488351232) (hi : DocsI ds) (hds : ∀ d ∈ ds, (d.length + 1) * 56 ≤ 140737488355328 ∧ ∀ e ∈ d, (e.ns.length + 1) * 8 ≤ 140737488355328) (hB : B ≤ w.heap.size) (hr : RdD w B A ds) :
    Calls Try.prog 11 #[.slice A n c] w (RetB true w) := by
  obtain ⟨iD, hiD, hzD, hsD, hbD⟩ := info_parts info_docS
  have HL := hide hl
  have HN := hide hn
  have HC := hide hc
  have HI := hide hi
  have HR := hide hr
  have HB2 := hide hB
  have HLent := hide (fun (W : World) (hW : Fr No w W) => lentD_any A n c B ds W hl hn hc (by omega) hds (Nat.le_trans hB hW.size) (hr.fr0 hW))
  have hble := buildB_le ds
  obtain ⟨bs, hbs⟩ : ∃ bs, bs = buildB ds := ⟨_, rfl⟩
  have HBs := hide hbs
  rw [← hbs] at hble
  obtain ⟨m, hm⟩ : ∃ m, m = bs.length := ⟨_, rfl⟩
  have HM := hide hm
  rw [← hm] at hble
  have hcn : n ≤ 9223372036854775807 := by unfold maxLen at hc; omega
  have HKn := hide known11_any
  clear hl hn hc hc2 hi hds hB hr hbs hm
  go_enter Try.func11, Try.ntmps11
  go_wp2_with (fail)
  refine (HKn.out w).mono ?_
  rintro en w0 ⟨rfl, hfr⟩
  have HF0 : Hid (Fr No w w0) := hide hfr
  clear hfr
  go_wp2_with (fail)
  refine (HLent.out w0 HF0.out).mono ?_
  rintro en w1 ⟨v1, rfl, hlt, hfr⟩
  obtain ⟨A1, c1, rfl, x1, x2, _⟩ := (show ∃ A1 c1, v1 = .slice A1 ds.length c1 ∧ ds.length ≤ c1 ∧ c1 ≤ maxLen ∧ True by obtain ⟨_, _, ho, _⟩ := hlt; obtain ⟨A1, c1, e, y1, y2, _⟩ := ho.form; exact ⟨A1, c1, e, y1, y2, trivial⟩)
  rw [HL.out] at x1 hlt ⊢
  have HBu := hide (build_any A1 n c1 _ ds w1 HL.out x1 x2 (Nat.le_refl _) hlt.rdD)
  have HF1 : Hid (Fr No w w1) := hide (HF0.out.tr hfr)
  clear hlt hfr x1 x2
  go_wp2_with (fail)
  refine HBu.out.mono ?_
  rintro en w2 ⟨v2, rfl, hown, hfr⟩
  rw [← HBs.out, ← HM.out] at hown
  obtain ⟨A2, c2, rfl, x3, x4, _⟩ := hown.form
  have HO2 := hide hown
  have HF2 : Hid (Fr No w w2) := hide (HF1.out.tr hfr)
  have HX2 := hide (And.intro x3 x4)
  clear hown hfr x3 x4 HBu
  by_cases hmay : mayB ds
  · have HMay := hide hmay
    have hn16 : n ≤ 16384 := by have := hmay.1; rw [HL.out] at this; exact this
    have hm1 : 1 ≤ m := by rw [HM.out, HBs.out]; exact buildB_pos hmay
    have hm0 : ¬ (m : Int) = 0 := by omega
    have hm0N : ¬ m = 0 := by omega
    clear hmay
    go_wp2_with (fail)
    refine (callsIn_wide.1 (open_in 6 (Nat.le_refl _) m c2 A2 bs _ w2 HM.out.symm HX2.out.1 HX2.out.2 (by omega) (Nat.le_refl _) HO2.out.rd)).mono ?_
    rintro en w7 ⟨p, e, rfl, hfr, hp⟩
    have hok := open_of_build (bs := bs) HMay.out HI.out HBs.out.symm (by rw [← HM.out]; omega)
    have hp2 : ∃ cs g, p = some ⟨g, 0, none⟩ ∧ e = 0 ∧ StoM w7 w2.heap.size g cs ∧ docsC cs = ds ∧ cntC cs = cutsB ds := by
      rcases hp with ⟨ks, cs, g, h1, h2, h3, h4⟩ | ⟨h1, _⟩
      · rw [HBs.out] at h1
        exact ⟨cs, g, h2, h3, h4, OpenOk.of_build HMay.out HI.out h1⟩
      · exact absurd hok (h1 _ _)
    obtain ⟨cs, g, rfl, rfl, hsto, hdc, hcc⟩ := hp2
    have HS7 := hide hsto
    have HF7 : Hid (Fr No w w7) := hide (HF2.out.tr hfr)
    have HO7 := hide (HO2.out.fr0 hfr)
    have HDc := hide hdc
    have HCc := hide hcc
    clear hfr hp hok hsto hdc hcc
    have HLenA := hide (fun (W : World) (f : Fr No w7 W) => show Calls Try.prog 45 #[.pointer (some ⟨g, 0, none⟩)] W (Ret (.int .i64 (n : Nat)) W) by have := len_sto (HS7.out.fr0 f); rw [HDc.out, HL.out] at this; exact this)
    have HDocA := hide (fun (W : World) (f : Fr No w7 W) (i : Nat) (hi : i < n) => callsIn_wide.1 (doc_in 6 (Nat.le_refl _) (w := W) i (HS7.out.fr0 f) (sto_bounds HMay.out HCc.out).1 (fun c hc => Nat.le_trans ((sto_bounds HMay.out HCc.out).2 c hc) (by omega)) (by rw [HDc.out, HL.out]; exact hi)))
    rw [HDc.out] at HDocA
    go_wp2_with (fail)
    go_loopw [6, 7, 8, 9] (fun va ix _ _ wr => ∃ (q : Nat) (ps : List DocQ), q ≤ n ∧ q ≤ 40 ∧ ix = .int .i64 q ∧ Hid (ps.length = 2 * q) ∧ Hid (Own wr w7.heap.size 76 1 va (2 * q) (ps.map qVal)) ∧ Hid (OwnQ wr w7.heap.size ps) ∧ Hid (∀ p ∈ ps, p.1.map (·.1) ∈ ds) ∧ Hid (Fr No w7 wr)) (fun _ ix _ _ _ => n - (intOf ix).toNat)
    case atStart => exact ⟨0, [], by omega, by omega, rfl, hide rfl, hide (Own.nil _ _ _ _), hide (OwnQ.nil _ _), hide (fun p hp => by cases hp), hide (Fr.refl _ _)⟩
    case round =>
      obtain ⟨wo, rfl⟩ : ∃ wo : World, wo = wr := ⟨_, rfl⟩
      obtain ⟨q, ps, hq, hq40, rfl, HPl, HRw, HQ, HPd, HFr⟩ := hrel
      have HLn := hide (HLenA.out wo HFr.out)
      obtain ⟨gb, hgb⟩ : ∃ gb, gb = decide (q < n ∧ q < 40) := ⟨_, rfl⟩
      have HGb := hide hgb
      clear hgb
      go_upto_region 9 with (fail)
      refine wp_named fun K hK => ?_
      go_cut [32] from 25 to 32 (fun v wx => v = .bool gb ∧ wx = wo)
      case first =>
        by_cases h1 : q < n
        · by_cases h2 : q < 40
          · have HX : Hid (gb = true) := hide (by rw [HGb.out]; exact decide_eq_true ⟨h1, h2⟩)
            have d1 : decide ((q : Int) < (n : Int)) = true := decide_eq_true (by omega)
            have d2 : decide ((q : Int) < 40) = true := decide_eq_true (by omega)
            go_wp2_with (go_at_call 45; refine HLn.out.mono ?_; rintro en wz ⟨rfl, rfl⟩)
            go_meet
            exact ⟨by rw [HX.out], rfl⟩
          · have HX : Hid (gb = false) := hide (by rw [HGb.out]; exact decide_eq_false (fun h => h2 h.2))
            have d1 : decide ((q : Int) < (n : Int)) = true := decide_eq_true (by omega)
            have d2 : decide ((q : Int) < 40) = false := decide_eq_false (by omega)
            go_wp2_with (go_at_call 45; refine HLn.out.mono ?_; rintro en wz ⟨rfl, rfl⟩)
            go_meet
            exact ⟨by rw [HX.out], rfl⟩
        · have HX : Hid (gb = false) := hide (by rw [HGb.out]; exact decide_eq_false (fun h => h1 h.1))
          have d1 : decide ((q : Int) < (n : Int)) = false := decide_eq_false (by omega)
          have d3 : decide (q < n) = false := decide_eq_false h1
          go_wp2_with (go_at_call 45; refine HLn.out.mono ?_; rintro en wz ⟨rfl, rfl⟩)
          go_meet
          exact ⟨by rw [HX.out], rfl⟩
      case rest =>
        obtain ⟨rfl, hw⟩ := hcut
        have hw := hw.symm
        subst hw
        refine hK _ _ ?_
        clear hK K
        cases gb with
        | true =>
          obtain ⟨hqn, hq4⟩ : q < n ∧ q < 40 := of_decide_eq_true HGb.out.symm
          have hdm := getD_mem2 (l := ds) (d := []) (q := q) (by rw [HL.out]; exact hqn)
          have HD1 := hide (HDocA.out wo HFr.out q hqn)
          have HD2 := hide (fun (W : World) (f : Fr No w7 W) => HDocA.out W f q hqn)
          generalize ds.getD q [] = D at *
          have HDm := hide hdm
          obtain ⟨dn, hdn⟩ : ∃ dn, dn = D.length := ⟨_, rfl⟩
          have HDn := hide hdn
          clear hdm hdn
          go_wp2_with (fail)
          refine HD1.out.mono ?_
          rintro en w9 ⟨A9, c9, rfl, hoe, hfr⟩
          rw [← HDn.out]
          have HF9 : Hid (Fr No w7 w9) := hide (HFr.out.tr hfr)
          have HE9 := hide hoe
          have HFo9 : Hid (Fr No wo w9) := hide hfr
          have HD3 := hide (HD2.out w9 HF9.out)
          clear hoe hfr HD1 HD2
          go_wp2_with (fail)
          refine HD3.out.mono ?_
          rintro en w10 ⟨A10, c10, rfl, hoe, hfr⟩
          rw [← HDn.out]
          obtain ⟨es1, k1, k2⟩ := HE9.out
          obtain ⟨es2, k3, k4⟩ := hoe
          have hl1 : es1.length = dn := by rw [HDn.out, ← k1, List.length_map]
          have hl2 : es2.length = dn := by rw [HDn.out, ← k3, List.length_map]
          have q9 : OwnQ w9 w7.heap.size (ps ++ [(es1, A9, c9)]) := HQ.out.snoc (HQ.out.fr0 HFo9.out) (p := (es1, A9, c9)) (by unfold qVal; rw [hl1, HDn.out]; exact k2) HFr.out.size
          have q10 : OwnQ w10 w7.heap.size (ps ++ [(es1, A9, c9)] ++ [(es2, A10, c10)]) := q9.snoc (q9.fr0 hfr) (p := (es2, A10, c10)) (by unfold qVal; rw [hl2, HDn.out]; exact k4) HF9.out.size
          have f11 : Fr No w10 (w10.alloc (.cells #[.slice A9 dn c9, .slice A10 dn c10] 76)) := (Fr.refl No w10).alloc _
          have HQ11 := hide (q10.fr0 f11)
          have HRow := hide (((HRw.out.fr0 HFo9.out).fr0 hfr).fr0 f11)
          have HF11 : Hid (Fr No w7 (w10.alloc (.cells #[.slice A9 dn c9, .slice A10 dn c10] 76))) := hide ((HF9.out.tr hfr).tr f11)
          have HSa := hide (Src.ofRd (P := Try.prog) (size := 1) _ Try.underlying74 (some ⟨w10.heap.size, 0, none⟩) 2 2 [.slice A9 dn c9, .slice A10 dn c10] rfl (by omega) (Rd.block (heap_alloc_new w10 (.cells #[.slice A9 dn c9, .slice A10 dn c10] 76))) (by simp [Value.oneCell']))
          have HV : Hid (qVal (es1, A9, c9) = .slice A9 dn c9 ∧ qVal (es2, A10, c10) = .slice A10 dn c10) := hide ⟨by unfold qVal; rw [hl1], by unfold qVal; rw [hl2]⟩
          have HK : Hid (es1.map (·.1) = D ∧ es2.map (·.1) = D) := hide ⟨k1, k3⟩
          have b1 : (2 * q + 2) * 24 ≤ 140737488355328 := by omega
          have b2 : 2 * q + 2 ≤ maxLen := by unfold maxLen; omega
          have b3 : w7.heap.size ≤ (w10.alloc (.cells #[.slice A9 dn c9, .slice A10 dn c10] 76)).heap.size := HF11.out.size
          clear hfr k1 k2 k3 k4 hl1 hl2 q9 q10 f11 HD3
          go_wp2_with (first | (at_builtin; refine wpList_append_gen _ rfl (.tmp 41) (.tmp 46) 74 74 rfl w7.heap.size 76 iD _ 1 24 Try.underlying74 hiD hzD hsD hbD rfl u6 (2 * q) (ps.map qVal) rfl HRow.out _ 2 [.slice A9 dn c9, .slice A10 dn c10] rfl HSa.out b1 b2 b3 ?_; intro v13 w13 hown hfr hat; have HO13 := hide hown; have HF13 := hide hfr; clear hown hfr hat) | fail)
          go_roundw
          case measure => simp [intOf]; omega
          case rel =>
            refine ⟨q + 1, ps ++ [(es1, A9, c9)] ++ [(es2, A10, c10)], by omega, by omega, by go_num, hide (by simp only [List.length_append, HPl.out, List.length_cons, List.length_nil]; omega), hide ?_, hide (HQ11.out.off HF13.out (off_own HRow.out (by decide)) (off_own HRow.out (by decide))), hide ?_, hide (HF11.out.own HF13.out (fun k hk => .inl (HRow.out.lt k hk).1))⟩
            · have e : (ps ++ [(es1, A9, c9)] ++ [(es2, A10, c10)]).map qVal = ps.map qVal ++ [.slice A9 dn c9, .slice A10 dn c10] := by
                rw [List.map_append, List.map_append, List.append_assoc, List.map_singleton, List.map_singleton, HV.out.1, HV.out.2]
                rfl
              rw [e, show 2 * (q + 1) = 2 * q + 2 by omega]
              exact HO13.out
            · intro p hp
              rcases List.mem_append.1 hp with hp | hp
              · rcases List.mem_append.1 hp with hp | hp
                · exact HPd.out p hp
                · rw [List.mem_singleton.1 hp, HK.out.1]; exact HDm.out
              · rw [List.mem_singleton.1 hp, HK.out.2]; exact HDm.out
        | false =>
          obtain ⟨Aa, ca, rfl, _⟩ := HRw.out.form
          have hok : ∀ p ∈ ps, p.1.length ≤ 64 ∧ ∀ e ∈ p.1, e.1.ns.length ≤ 4 := fun p hp => by
            have h1 := HMay.out.2 _ (HPd.out p hp)
            refine ⟨by have := h1.1; rwa [List.length_map] at this, fun e he => (h1.2 e.1 (List.mem_map.2 ⟨e, he, rfl⟩)).2.2⟩
          have HAp := hide (apartDocs_any Aa (2 * q) ca ps w7.heap.size wo HPl.out (by omega) (fun p hp => (hok p hp).1) (fun p hp => (hok p hp).2) HRw.out HQ.out HFr.out.size)
          clear hok
          go_wp2_with (fail)
          refine HAp.out.mono ?_
          rintro en w20 ⟨rfl, hfr⟩
          have HF20 : Hid (Fr No w7 w20) := hide (HFr.out.trans hfr (fun k hk h => by omega))
          clear hfr HAp
          have HO20 := hide (HO7.out.fr0 HF20.out)
          go_wp2_with (fail)
          go_loopw [10] (fun ix wr => ∃ (k : Nat) (X : List Value), k ≤ m ∧ ix = .int .i64 k ∧ Hid (Own wr w1.heap.size 5 1 (.slice A2 m c2) m X) ∧ Hid (Fr (fun k => (Value.slice A2 m c2).ownBlock = some k) w20 wr)) (fun ix _ => m - (intOf ix).toNat)
          case atStart => exact ⟨0, _, by omega, rfl, HO20, hide (Fr.refl _ _)⟩
          case round =>
            obtain ⟨wk, rfl⟩ : ∃ wk : World, wk = wr := ⟨_, rfl⟩
            obtain ⟨k, X, hk, rfl, HOk, HFk⟩ := hrel
            by_cases hlt : k < m
            · obtain ⟨gI, rfl, _, _, hcell, hfz, hst⟩ := HOk.out.store (k := k) hlt
              obtain ⟨u, hu⟩ := HOk.out.some_at (k := k) hlt
              rw [hu] at hcell
              have HN2 := hide (hst (.int .u8 9))
              have HFn : Hid (Fr (fun k => (Value.slice (some ⟨gI, 0, none⟩) m c2).ownBlock = some k) w20 (wk.setCell ⟨gI, k, none⟩ (.int .u8 9))) := hide (HFk.out.setCell (p := ⟨gI, k, none⟩) (fun _ => rfl) _)
              have hqI : (k : Int) < (m : Int) := by omega
              clear hst hu
              go_wp2
              go_roundw
              case rel => exact ⟨k + 1, _, by omega, by go_num, HN2, HFn⟩
              case measure => simp [intOf]; omega
            · obtain rfl : k = m := by omega
              clear hlt
              have hS : ∀ j, (Value.slice A2 k c2).ownBlock = some j → j < w2.heap.size := fun j hj => (HO2.out.lt j hj).2
              have HSk : Hid (StoM wk w2.heap.size g cs) := hide ((HS7.out.fr0 HF20.out).above HFk.out hS)
              have HFw : Hid (Fr No w wk) := hide ((HF7.out.tr HF20.out).own HFk.out (fun j hj => .inl (Nat.le_trans HF1.out.size (HO2.out.lt j hj).1)))
              obtain ⟨wb, hwb⟩ : ∃ wb : World, wb = wk := ⟨_, rfl⟩
              have HSb : Hid (StoM wb w2.heap.size g cs) := hide (by rw [hwb]; exact HSk.out)
              have HFb : Hid (Fr No w wb) := hide (by rw [hwb]; exact HFw.out)
              rw [← hwb]
              clear hwb HSk HFw hS HFk HOk HO20
              go_wp2_with (fail)
              go_loopw [11] (fun ix wr => ∃ i : Nat, i ≤ n ∧ ix = .int .i64 i ∧ Hid (Fr No wb wr)) (fun ix _ => n - (intOf ix).toNat)
              case atStart => exact ⟨0, by omega, rfl, hide (Fr.refl _ _)⟩
              case round =>
                obtain ⟨wx, rfl⟩ : ∃ wx : World, wx = wr := ⟨_, rfl⟩
                obtain ⟨i, hi, rfl, HFi⟩ := hrel
                by_cases hlt : i < n
                · obtain ⟨ad, rfl, e0, R, dn, dc, e1, e2, e3, e4, e5⟩ := HR.out i (by rw [HL.out]; exact hlt)
                  have HDoc := hide (callsIn_wide.1 (doc_in 6 (Nat.le_refl _) (w := wx.drew) i (HSb.out.fr0 HFi.out.drew) (sto_bounds HMay.out HCc.out).1 (fun c hc => Nat.le_trans ((sto_bounds HMay.out HCc.out).2 c hc) (by omega)) (by rw [HDc.out, HL.out]; exact hlt)))
                  rw [HDc.out] at HDoc
                  generalize ds.getD i [] = D at *
                  have HFx : Hid (Fr No w wx) := hide (HFb.out.tr HFi.out)
                  have k1 : wx.drew.cell? (ad.add i) = some (.slice R dn dc) := HFx.out.cell e1 (fun h => h)
                  have HK1 := hide k1
                  have HE5 := hide (e5.fr0 HFx.out)
                  have HE2 := hide e2
                  have HE3 := hide (And.intro e3 e4)
                  have hiI : (i : Int) < (n : Int) := by omega
                  clear e0 e1 e2 e3 e4 e5
                  go_wp2_with (fail)
                  go_region_held3 (fun W => W.cell? (ad.add i) = some (.slice R dn dc)) (first | exact k21 | exact k20 | exact HK1.out) (first
                    | (go_at_call 49; refine HDoc.out.mono ?_; rintro en w30 ⟨A30, c30, rfl, hoe, hfr⟩; rw [HE2.out]; have hl20 := hoe.le; rw [HE2.out] at hl20; have f20 : Fr No wx w30 := ((Fr.refl No wx).drew).tr hfr; have HF30 : Hid (Fr No wb w30) := hide (HFi.out.tr f20); have k20 := f20.cell (p := ad.add i) HK1.out (fun h => h); have HEn := hide (entries_any A30 R dn c30 dn dc _ _ D D w30 HE2.out HE2.out hl20.1 hl20.2 HE3.out.1 HE3.out.2 hoe.rd (HE5.out.fr0 f20)); rw [decide_eq_true rfl] at HEn; clear hoe hfr hl20 f20)
                    | (go_at_call 51; refine HEn.out.mono ?_; rintro en w31 ⟨rfl, q21, hq21⟩; have HF31 : Hid (Fr No wb w31) := hide (HF30.out.tr (fr_of_drewN hq21)); have k21 := (fr_of_drewN hq21).cell (p := ad.add i) k20 (fun h => h); clear hq21))
                  go_wp2
                  go_roundw
                  case rel => exact ⟨i + 1, by omega, by go_num, HF31⟩
                  case measure => simp [intOf]; omega
                · go_wp2
                  go_ret
                  exact ⟨rfl, HFb.out.tr HFi.out⟩
  · have hm0 : m = 0 := by
      rw [HM.out, HBs.out]
      unfold buildB
      rw [if_neg hmay]
      rfl
    subst hm0
    clear hmay
    go_wp2
    go_ret
    exact ⟨rfl, HF2.out⟩
end Go.Proofs.Ytpnhnnhocekchaa
