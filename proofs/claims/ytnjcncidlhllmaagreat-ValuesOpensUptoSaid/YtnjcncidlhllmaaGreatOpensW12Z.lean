/- ValuesOpens, walked. -/
import Derived.Test.YtnjcncidlhllmaaGreatK20
namespace Go.Proofs.YtnjcncidlhllmaaGreat
set_option linter.unusedVariables false
set_option linter.unusedSimpArgs false
open Go.RowKit

theorem fr_qO {w w' : World} {nq : Nat} (h : w' = w.drewN nq) : Fr No w w' := by rw [h]; exact (Fr.refl No w).drewN nq
set_option maxRecDepth 100000 in
set_option maxHeartbeats 8000000 in
theorem valuesOpens_any (A0 : Option Addr) (n0 c0 : Nat) (bs : List UInt8) (w : World)
    (h0 : bs.length = n0) (x0 : n0 ≤ c0) (y0 : c0 ≤ maxLen) (z0 : n0 ≤ 1048576) (r0 : Rd w w.heap.size A0 (by8 bs)) :
    Calls Tryz.prog 5 #[.slice A0 n0 c0] w (RetB true w) := by
  have HL := hide h0
  have HR0 := hide r0
  have HC := hide (And.intro x0 y0)
  have HLn := hide (lent8_any A0 n0 c0 w.heap.size bs w h0 (by omega) r0)
  have HRn := hide (fun W (f : Fr No w W) => refOpenNumbers_any A0 n0 c0 w.heap.size bs W h0 x0 y0 (by omega) f.size (r0.fr0 f))
  have HRt := hide (fun W (f : Fr No w W) => refOpenTexts_any A0 n0 c0 w.heap.size bs W h0 x0 y0 (by omega) f.size (r0.fr0 f))
  clear y0 r0 h0
  go_enter Tryz.func5, Tryz.ntmps5
  go_wp2_with (first
    | (go_at_call 24; refine (tfind_nil w _).mono ?_; rintro en wz ⟨rfl, rfl⟩)
    | (go_at_call 15; refine (nlen_nil _).mono ?_; rintro en wz ⟨rfl, rfl⟩)
    | (go_at_call 16; refine (nrow_nil _ _).mono ?_; rintro en wz ⟨rfl, rfl⟩)
    | (go_at_call 25; refine (nfil_nil _).mono ?_; rintro en wz ⟨rfl, rfl⟩)
    | (go_at_call 17; refine (tlen_nil _).mono ?_; rintro en wz ⟨rfl, rfl⟩)
    | (go_at_call 18; refine (trow_nil _ _).mono ?_; rintro en wz ⟨rfl, rfl⟩)
    | (go_at_call 19; refine (tords_nil _ _).mono ?_; rintro en wz ⟨rfl, rfl⟩)
    | (go_at_call 26; refine (tterms_nil _).mono ?_; rintro en wz ⟨rfl, rfl⟩)
    | (go_at_call 27; refine (tterm_nil _).mono ?_; rintro en wz ⟨rfl, rfl⟩))
  refine HLn.out.mono ?_
  rintro en w1 ⟨A1, c1, he, hob, hfr⟩
  rw [HL.out] at he hob
  subst he
  have hle := hob.le
  have HO1 := hide hob
  have HF1 := hide hfr
  have HC1 := hide hle.2
  have hr1 : Rd w1 w1.heap.size A1 (by8 bs) := by
    have h := hob.rd.tk bs.length
    rw [← by8_take, List.take_left] at h
    exact h
  have HOp := hide (openNumbers_any A1 n0 c1 w1.heap.size bs w1 HL.out (by omega) hle.2.2 (by omega) (Nat.le_refl _) hr1)
  have HOt := hide (fun W (f : Fr No w1 W) => openTexts_any A1 n0 c1 w1.heap.size bs W HL.out (by omega) hle.2.2 (by omega) f.size (hr1.fr0 f))
  clear hob hfr hle hr1 HLn
  go_wp2_with (fail)
  refine HOp.out.mono ?_
  rintro en w2 hpo
  obtain ⟨hfr, o1, ev1, rfl, hv⟩ := num_v hpo
  have HF12 := hide hfr
  have HN2 := hide hv
  clear hfr hpo hv HOp
  go_wp2_with (fail)
  refine (HOt.out w2 HF12.out).mono ?_
  rintro en w3 hpo
  obtain ⟨hfr, o2, ev2, rfl, hv⟩ := txt_v hpo
  have HF23 := hide hfr
  have HN3 := hide (HN2.out.fr0 hfr)
  have HT3 := hide hv
  have HF3 := hide (HF1.out.tr (HF12.out.tr hfr))
  clear hfr hpo hv HOt HN2
  go_wp2_with (fail)
  refine (HRn.out w3 HF3.out).mono ?_
  rintro en w4 hro
  obtain ⟨hfr, Aw, nw, cw, vw, rw', rfl, hbo⟩ := num_both HN3.out hro
  have HF34 := hide hfr
  have HNo4 := hide hbo
  have HT4 := hide (HT3.out.fr0 hfr)
  have HF4 := hide (HF3.out.tr hfr)
  clear hfr hro hbo HRn HN3 HT3
  go_wp2_with (fail)
  refine (HRt.out w4 HF4.out).mono ?_
  rintro en w5 hro
  obtain ⟨hfr, At, nt, ct, vt, rt, rfl, hbo⟩ := txt_both HT4.out hro
  have HNo5 := hide (HNo4.out.fr0 hfr)
  have HTo5 := hide hbo
  have HF5 := hide (HF4.out.tr hfr)
  have HF15 := hide (HF12.out.tr (HF23.out.tr (HF34.out.tr hfr)))
  have HS1 := hide HF12.out.size
  have HS2 := hide HF23.out.size
  have HS3 := hide HF34.out.size
  have HS4 := hide hfr.size
  have HO5 := hide (HO1.out.fr0 HF15.out)
  have HKp := hide (kept8_any A1 A0 n0 c1 n0 c0 w5.heap.size w.heap.size bs w5 HL.out HL.out HC1.out.1 HC1.out.2 HC.out.1 HC.out.2 HO5.out.rd (HR0.out.fr0 HF5.out))
  have hn16 : nw ≤ 16384 := by rw [← hbo.len] at *; have := HNo4.out.ok.1; rw [HNo4.out.len] at this; exact this
  have ht16 : nt ≤ 16384 := hbo.ok.1
  have HEv1 := hide HNo5.out.ev
  have HEv2 := hide hbo.ev
  clear hfr hro hbo HNo4 HT4 HRt
  go_upto_region 11 with (fail)
  refine wp_named fun K hK => ?_
  have e1 : (ev1 != ev1) = false := by simp
  have e2 : (ev2 != ev2) = false := by simp
  go_cut [121] from 94 to 121 (fun v wx => v = .bool false ∧ Hid (Fr No w5 wx))
  case first =>
    rcases HEv1.out with ⟨rfl, rfl⟩ | ⟨G1, rfl, rfl⟩ <;> rcases HEv2.out with ⟨rfl, rfl⟩ | ⟨G2, rfl, rfl⟩
    all_goals
      clear e1 e2
      go_wp2_with (fail)
      refine HKp.out.mono ?_
      rintro en w6 ⟨rfl, nq, hq⟩
      have HF56 : Hid (Fr No w5 w6) := hide (fr_qO hq)
      clear hq
      go_wp2_with (fail)
      go_meet
      exact ⟨rfl, HF56⟩
  case rest =>
    obtain ⟨w6, rfl⟩ : ∃ W : World, W = wc := ⟨_, rfl⟩
    obtain ⟨rfl, HF56⟩ := hcut
    refine hK _ _ ?_
    have HNo6 := hide (HNo5.out.fr0 HF56.out)
    have HTo6 := hide (HTo5.out.fr0 HF56.out)
    have HO6 := hide (HO5.out.fr0 HF56.out)
    have HF6 := hide (HF5.out.tr HF56.out)
    have hlt1 := HC1.out
    clear hK K e1 e2 HKp HNo5 HTo5 HO5 HEv1 HEv2
    go_wp2_with (fail)
    go_loopw [16] (fun ix wr => ∃ (q : Nat) (X : List Value), q ≤ n0 ∧ ix = .int .i64 (q : Nat) ∧ Hid (Own wr w.heap.size 5 1 (.slice A1 (n0 + 1) c1) (n0 + 1) X) ∧ Hid (Fr (fun k => (Value.slice A1 (n0 + 1) c1).ownBlock = some k) w6 wr)) (fun ix _ => n0 - (intOf ix).toNat)
    case atStart => exact ⟨0, _, by omega, by go_num, HO6, hide (Fr.refl _ _)⟩
    case round =>
      obtain ⟨wo, rfl⟩ : ∃ wo : World, wo = wr := ⟨_, rfl⟩
      obtain ⟨q, X, hq, rfl, HOq, HFq⟩ := hrel
      by_cases hlt : q < n0
      · obtain ⟨gI, rfl, _, _, hcell, hfz, hst⟩ := HOq.out.store (k := q) (by omega)
        obtain ⟨u, hu⟩ := HOq.out.some_at (k := q) (by omega)
        rw [hu] at hcell
        have HN := hide (hst (.int .u8 255))
        have HFn : Hid (Fr (fun k => (Value.slice (some ⟨gI, 0, none⟩) (n0 + 1) c1).ownBlock = some k) w6 (wo.setCell ⟨gI, q, none⟩ (.int .u8 255))) := hide (HFq.out.setCell (p := ⟨gI, q, none⟩) (fun _ => rfl) _)
        have hqI : (q : Int) < (n0 : Int) := by omega
        clear hst hu
        go_wp2
        go_roundw
        case rel => exact ⟨q + 1, _, by omega, by go_num, HN, HFn⟩
        case measure => simp [intOf]; omega
      · obtain rfl : q = n0 := by omega
        have hS : ∀ k, (Value.slice A1 (q + 1) c1).ownBlock = some k → k < w1.heap.size := fun k hk => (HO1.out.lt k hk).2
        have HNq := hide (HNo6.out.fr HFq.out (fun k hk => by have := hS k hk; have := HS1.out; have := HS2.out; omega))
        have HTq := hide (HTo6.out.fr HFq.out (fun k hk => by have := hS k hk; have := HS1.out; have := HS2.out; have := HS3.out; omega))
        have HFw : Hid (Fr No w wo) := hide (HF6.out.own HFq.out (fun k hk => .inl (HO1.out.lt k hk).1))
        obtain ⟨wb, hwb⟩ : ∃ wb : World, wb = wo := ⟨_, rfl⟩
        rw [← hwb] at HNq HTq HFw ⊢
        obtain ⟨_, _, e1, a1, a2, _⟩ := HNq.out.own.form
        cases e1
        obtain ⟨_, _, e2, b1, b2, _⟩ := HTq.out.own.form
        cases e2
        have HLn := hide HNq.out.lenC
        have HLt := hide HTq.out.lenC
        unfold maxLen at a2 b2
        clear hwb hlt hS HFq HOq HO6
        go_wp2_with (first
          | (go_at_call 15; refine HLn.out.mono ?_; rintro en wz ⟨rfl, rfl⟩)
          | (go_at_call 17; refine HLt.out.mono ?_; rintro en wz ⟨rfl, rfl⟩))
        go_loopw [17] (fun ix wr => ∃ k : Nat, k ≤ nw ∧ ix = .int .i64 (k : Nat) ∧ Hid (Fr No wb wr)) (fun ix _ => nw - (intOf ix).toNat)
        case atStart => exact ⟨0, by omega, by go_num, hide (Fr.refl _ _)⟩
        case round =>
          obtain ⟨wx17, rfl⟩ : ∃ wo : World, wo = wr := ⟨_, rfl⟩
          obtain ⟨k, hk, rfl, HFk⟩ := hrel
          have HNk := hide (HNq.out.fr0 HFk.out)
          by_cases hlt : k < nw
          · obtain ⟨ad, Ai, ci, hA, hcell, hc1, hc2, hrd, h64⟩ := HNk.out.at hlt
            subst hA
            have HRow := hide (fun W (f : Fr No wx17 W) => (HNk.out.fr0 f).rowC hlt)
            obtain ⟨row, hrow⟩ : ∃ x, x = rw'.getD k [] := ⟨_, rfl⟩
            rw [← hrow] at hcell hc1 hrd h64 HRow
            obtain ⟨li, hli⟩ : ∃ x, x = row.length := ⟨_, rfl⟩
            rw [← hli] at hcell hc1 h64
            have HLi := hide hli
            have HRd := hide hrd
            have HK1 := hide hcell
            have HCc := hide (And.intro hc1 hc2)
            have hkI : (k : Int) < (nw : Int) := by omega
            have k10 : wx17.drew.cell? (ad.add k) = some (.slice Ai li ci) := hcell
            unfold maxLen at hc2
            clear hrow hli hrd hcell
            go_wp2_with (fail)
            go_region_held3 (fun W => W.cell? (ad.add k) = some (.slice Ai li ci)) (first | exact k21 | exact k20 | exact HK1.out) (first
              | (go_at_call 16; refine (HRow.out _ ((Fr.refl No wx17).drew)).mono ?_; rintro en w20 ⟨v20, rfl, hoe, hfr⟩; rw [← HLi.out] at hoe; obtain ⟨A20, c20, rfl, x5, x6, _, x7, -⟩ := hoe.form; have f20 : Fr No wx17 w20 := ((Fr.refl No wx17).drew).tr hfr; have k20 := f20.cell (p := ad.add k) HK1.out (fun h => h); have HF20 := hide (HFk.out.tr f20); have HEn := hide (sameI64_any A20 Ai li c20 li ci _ _ row row w20 HLi.out.symm HLi.out.symm x5 x6 HCc.out.1 HCc.out.2 x7 (HRd.out.fr0 f20)); rw [decide_eq_true rfl] at HEn; unfold maxLen at x6; clear hoe hfr f20 x7)
              | (go_at_call 31; refine HEn.out.mono ?_; rintro en w21 ⟨rfl, q21, hq21⟩; have HF21 := hide (HF20.out.tr (fr_qO hq21)); have k21 := (fr_qO hq21).cell (p := ad.add k) k20 (fun h => h); clear hq21))
            go_wp2
            go_roundw
            case rel => exact ⟨k + 1, by omega, by go_num, HF21⟩
            case measure => simp [intOf]; omega
          · obtain rfl : k = nw := by omega
            clear hlt
            have HTk := hide (HTq.out.fr0 HFk.out)
            have HFk17 := hide HFk.out
            clear HFk HNk
            go_wp2_with (fail)
            go_loopw [18] (fun ix wr => ∃ k : Nat, k ≤ nt ∧ ix = .int .i64 (k : Nat) ∧ Hid (Fr No wx17 wr)) (fun ix _ => nt - (intOf ix).toNat)
            case atStart => exact ⟨0, by omega, by go_num, hide (Fr.refl _ _)⟩
            case round =>
              obtain ⟨wx18, rfl⟩ : ∃ wo : World, wo = wr := ⟨_, rfl⟩
              obtain ⟨k, hk, rfl, HFk⟩ := hrel
              have HNk := hide (HTk.out.fr0 HFk.out)
              by_cases hlt : k < nt
              · obtain ⟨ad, Ai, ci, hA, hcell, hc1, hc2, hrd, h64⟩ := HNk.out.at hlt
                subst hA
                have HRow := hide (fun W (f : Fr No wx18 W) => (HNk.out.fr0 f).rowC hlt)
                obtain ⟨row, hrow⟩ : ∃ x, x = rt.getD k [] := ⟨_, rfl⟩
                rw [← hrow] at hcell hc1 hrd h64 HRow
                obtain ⟨li, hli⟩ : ∃ x, x = row.length := ⟨_, rfl⟩
                rw [← hli] at hcell hc1 h64
                have HLi := hide hli
                have HRd := hide hrd
                have HK1 := hide hcell
                have HCc := hide (And.intro hc1 hc2)
                have hkI : (k : Int) < (nt : Int) := by omega
                have k10 : wx18.drew.cell? (ad.add k) = some (.slice Ai li ci) := hcell
                unfold maxLen at hc2
                clear hrow hli hrd hcell
                go_wp2_with (fail)
                go_region_held3 (fun W => W.cell? (ad.add k) = some (.slice Ai li ci)) (first | exact k21 | exact k20 | exact HK1.out) (first
                  | (go_at_call 18; refine (HRow.out _ ((Fr.refl No wx18).drew)).mono ?_; rintro en w20 ⟨v20, rfl, hoe, hfr⟩; rw [← HLi.out] at hoe; obtain ⟨A20, c20, rfl, x5, x6, _, x7, -⟩ := hoe.form; have f20 : Fr No wx18 w20 := ((Fr.refl No wx18).drew).tr hfr; have k20 := f20.cell (p := ad.add k) HK1.out (fun h => h); have HF20 := hide (HFk.out.tr f20); have HEn := hide (sameS_any A20 Ai li c20 li ci _ _ row row w20 HLi.out.symm HLi.out.symm x5 x6 HCc.out.1 HCc.out.2 x7 (HRd.out.fr0 f20)); rw [decide_eq_true rfl] at HEn; unfold maxLen at x6; clear hoe hfr f20 x7)
                  | (go_at_call 32; refine HEn.out.mono ?_; rintro en w21 ⟨rfl, q21, hq21⟩; have HF21 := hide (HF20.out.tr (fr_qO hq21)); have k21 := (fr_qO hq21).cell (p := ad.add k) k20 (fun h => h); clear hq21))
                go_wp2
                go_roundw
                case rel => exact ⟨k + 1, by omega, by go_num, HF21⟩
                case measure => simp [intOf]; omega
              · obtain rfl : k = nt := by omega
                go_wp2_with (fail)
                go_ret
                exact ⟨rfl, (HFw.out.tr HFk17.out).tr HFk.out⟩
end Go.Proofs.YtnjcncidlhllmaaGreat
