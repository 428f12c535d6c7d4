/- Several texts in one: StoROW. -/
import Derived.Test.YtpnhnnhocekchaaK18
namespace Go.Proofs.Ytpnhnnhocekchaa
set_option linter.unusedVariables false
set_option linter.unusedSimpArgs false
open Go.RowKit

def RefOpenPost (w : World) (bs : List UInt8) (en : Ending) (w' : World) : Prop :=
  ∃ (v : Value) (e : Int), en = .returned (.tuple #[v, .int .i64 e]) ∧ Fr No w w' ∧
    ((∃ ds ps, e = 0 ∧ buildB ds = bs ∧ mayB ds ∧ DocsI ds ∧ OwnD w' w.heap.size v ps ∧ ps.map (·.1) = ds) ∨ (e = 20 ∧ v = .slice none 0 0 ∧ ∀ ks cs, ¬ OpenOk bs ks cs))
theorem Fr.is {w w1 w2 : World} {g : Nat} (h : Fr No w w1) (f : Fr (Is g) w1 w2) (hg : w.heap.size ≤ g) : Fr No w w2 := h.trans f (fun i hi e => by have e : i = g := e; omega)
theorem ok_read {bs : List UInt8} {ks : List (Nat × Nat)} {cs : List ChV} (h : OpenOk bs ks cs) (hl : bs.length < 18446744073709551616) : refRd bs = (docsC cs, bs.length, 0) := refRd_has h.may.1 h.may.2 h.form hl
set_option maxRecDepth 100000 in
set_option maxHeartbeats 8000000 in
theorem refOpen_any (A : Option Addr) (m c : Nat) (bs : List UInt8) (w : World) (hl : bs.length = m) (hm : m ≤ c) (hc : c ≤ maxLen) (hb : m ≤ 140737488351232) (hr : Rd w w.heap.size A (by8 bs)) :
    Calls Try.prog 52 #[.slice A m c] w (RefOpenPost w bs) := by
  obtain ⟨iD, hiD, hzD, hsD, hbD⟩ := info_parts Try.infoDoc
  obtain ⟨iE, hiE, hzE, hsE, hbE⟩ := info_parts Try.infoEnt
  obtain ⟨iI, hiI, hzI, hsI, hbI⟩ := info_parts Try.infoI64b
  obtain ⟨N, a1, e1, hs1⟩ : ∃ N a e, sizeS bs 0 0 16384 = (N, a, e) := ⟨_, _, _, rfl⟩
  obtain ⟨C, a2, e2, hs2⟩ : ∃ C a e, sizeS bs a1 e1 (N : Nat) = (C, a, e) := ⟨_, _, _, rfl⟩
  obtain ⟨a3, e3, hs3⟩ : ∃ a e, headR bs bs.length C a2 e2 = (a, e) := ⟨_, _, rfl⟩
  have hN16 : N ≤ 16384 := by have := sizeS_le (bs := bs) (a := 0) (e := 0) (most := 16384) (by omega); rw [hs1] at this; dsimp only at this; omega
  have hCN : C ≤ N := by have := sizeS_le (bs := bs) (a := a1) (e := e1) (most := (N : Nat)) (by omega); rw [hs2] at this; dsimp only at this; omega
  have HRd := hide (refRd_eq hs1 hs2 hs3)
  have HL := hide hl
  have HR := hide hr
  have HS1 := hide hs1
  have HS2 := hide hs2
  have HS3 := hide hs3
  obtain ⟨w1, hw1⟩ : ∃ w1, w1 = w.alloc (.cells #[.slice A m c, .int .i64 0, .int .i64 0] 99) := ⟨_, rfl⟩
  obtain ⟨g, hg⟩ : ∃ g, g = w.heap.size := ⟨_, rfl⟩
  have hrs : RS w1 w.heap.size g bs 0 0 := by
    refine ⟨A, c, ?_, by omega, hc, Nat.zero_le _, by omega, ?_, by omega⟩
    · rw [hw1, hg, hl]; exact heap_alloc_new w _
    · rw [hw1]; exact hr.fr0 ((Fr.refl No w).alloc _)
  have HRS1 := hide hrs
  have HF1 : Hid (Fr No w w1) := hide (by rw [hw1]; exact (Fr.refl No w).alloc _)
  have HW1 := hide hw1
  have HG := hide hg
  have HGl : Hid (w.heap.size ≤ g) := hide (by omega)
  have HSz1 := hide (refN_any w.heap.size g bs 0 0 16384 w1 hrs (by omega))
  rw [hs1] at HSz1
  have HM := hide hm
  have HC := hide hc
  unfold maxLen at hc
  clear hl hr hs1 hs2 hs3 hrs hw1
  go_enter Try.func52, Try.ntmps52
  go_wp2_with (fail)
  rw [← HW1.out, ← hg]
  refine HSz1.out.mono ?_
  rintro en w2 ⟨rfl, hrs, hfr⟩
  have HRS2 := hide hrs
  have HF2 : Hid (Fr No w w2) := hide (HF1.out.is hfr HGl.out)
  have HSz2 := hide (refN_any w.heap.size g bs a1 e1 (N : Nat) w2 hrs (by omega))
  rw [HS2.out] at HSz2
  clear hrs hfr hg
  go_wp2_with (fail)
  refine HSz2.out.mono ?_
  rintro en w3 ⟨rfl, hrs, hfr⟩
  have HRS3 := hide hrs
  have HF3 : Hid (Fr No w w3) := hide (HF2.out.is hfr HGl.out)
  clear hrs hfr
  go_wp2_with (fail)
  go_loopw [7] (fun ix wr => ∃ (q a : Nat) (e : Int), q ≤ C ∧ ix = .int .i64 q ∧ Hid (headR bs bs.length q a2 e2 = (a, e)) ∧ Hid (RS wr w.heap.size g bs a e) ∧ Hid (Fr No w wr)) (fun ix _ => C - (intOf ix).toNat)
  case atStart => exact ⟨0, a2, e2, by omega, rfl, hide rfl, HRS3, HF3⟩
  case round =>
    obtain ⟨wo, rfl⟩ : ∃ wo : World, wo = wr := ⟨_, rfl⟩
    obtain ⟨q, a, e, hq, rfl, HH, HRS, HFr⟩ := hrel
    obtain ⟨Ar, cr, ⟨c0, c1, c2⟩, hf, _⟩ := HRS.out.parts
    obtain ⟨gb, hgb⟩ : ∃ gb, gb = decide (q < C ∧ e = 0) := ⟨_, rfl⟩
    have HGb := hide hgb
    clear hgb HRS2 HRS3 HRS1
    go_upto_region 5 with (fail)
    refine wp_named fun K hK => ?_
    go_cut [34] from 25 to 34 (fun v wx => v = .bool gb ∧ wx = wo)
    case first =>
      by_cases h1 : q < C
      · by_cases h2 : e = 0
        · have HX : Hid (gb = true) := hide (by rw [HGb.out]; exact decide_eq_true ⟨h1, h2⟩)
          subst h2
          have d1 : decide ((q : Int) < (C : Int)) = true := decide_eq_true (by omega)
          go_wp2
          go_meet
          exact ⟨by rw [HX.out], rfl⟩
        · have HX : Hid (gb = false) := hide (by rw [HGb.out]; exact decide_eq_false (fun h => h2 h.2))
          have d1 : decide ((q : Int) < (C : Int)) = true := decide_eq_true (by omega)
          have d2 : (e == 0) = false := by simpa using h2
          clear h2
          go_wp2
          go_meet
          exact ⟨by rw [HX.out], rfl⟩
      · have HX : Hid (gb = false) := hide (by rw [HGb.out]; exact decide_eq_false (fun h => h1 h.1))
        have d1 : decide ((q : Int) < (C : Int)) = false := decide_eq_false (by omega)
        have d3 : decide (q < C) = false := decide_eq_false h1
        go_wp2
        go_meet
        exact ⟨by rw [HX.out], rfl⟩
    case rest =>
      obtain ⟨rfl, rfl⟩ := hcut
      refine hK _ _ ?_
      clear hK K
      cases gb with
      | true =>
        obtain ⟨hqC, rfl⟩ : q < C ∧ e = 0 := of_decide_eq_true HGb.out.symm
        obtain ⟨k1, b1, ε1, hz1⟩ : ∃ k b ε, sizeS bs a 0 16384 = (k, b, ε) := ⟨_, _, _, rfl⟩
        obtain ⟨k2, b2, ε2, hz2⟩ : ∃ k b ε, sizeS bs b1 ε1 (bs.length : Nat) = (k, b, ε) := ⟨_, _, _, rfl⟩
        have HNx : Hid (headR bs bs.length (q + 1) a2 e2 = (b2, ε2)) := hide (by
          rw [headR_go HH.out, hz1]
          dsimp only
          rw [hz2])
        have HA := hide (refN_any w.heap.size g bs a 0 16384 wc HRS.out (by omega))
        have HB := hide (fun (W : World) (h : RS W w.heap.size g bs b1 ε1) => refN_any w.heap.size g bs b1 ε1 (bs.length : Nat) W h (by have := HL.out; omega))
        rw [hz1] at HA
        rw [hz2, HL.out] at HB
        clear hz1 hz2
        go_wp2_with (fail)
        refine HA.out.mono ?_
        rintro en w4 ⟨rfl, hrs, hfr⟩
        have HB4 := hide (HB.out w4 hrs)
        have HF4 : Hid (Fr No w w4) := hide (HFr.out.is hfr HGl.out)
        clear hrs hfr
        go_wp2_with (fail)
        refine HB4.out.mono ?_
        rintro en w5 ⟨rfl, hrs, hfr⟩
        have HRS5 := hide hrs
        have HF5 : Hid (Fr No w w5) := hide (HF4.out.is hfr HGl.out)
        clear hrs hfr
        go_wp2
        go_roundw
        case rel => exact ⟨q + 1, b2, ε2, by omega, by go_num, HNx, HRS5, HF5⟩
        case measure => simp [intOf]; omega
      | false =>
        have HH3 : Hid (a = a3 ∧ e = e3) := hide (by
          have h := of_decide_eq_false HGb.out.symm
          have h2 : headR bs bs.length C a2 e2 = (a, e) := by
            by_cases h1 : q < C
            · rw [headR_stay (q := q) (by rw [HH.out]; exact fun h2 => h ⟨h1, h2⟩) C (by omega), HH.out]
            · rw [show C = q by omega]; exact HH.out
          rw [HS3.out] at h2
          injection h2 with x y
          exact ⟨x.symm, y.symm⟩)
        obtain ⟨rfl, rfl⟩ := HH3.out
        clear HH HH3 HGb hq
        obtain ⟨wp, hwp⟩ : ∃ wp : World, wp = wc := ⟨_, rfl⟩
        have HRSp : Hid (RS wp w.heap.size g bs a e) := hide (by rw [hwp]; exact HRS.out)
        have HFp : Hid (Fr No w wp) := hide (by rw [hwp]; exact HFr.out)
        rw [← hwp]
        clear hwp HRS HFr c0 c1 c2 hf
        go_wp2_with (fail)
        go_loopw [8, 9] (fun va ix wr => ∃ (q b : Nat) (ε : Int) (dl : List (List EntV)) (ps : List DocL), q ≤ N ∧ ix = .int .i64 q ∧ Hid (docsR bs q a e = (dl, b, ε)) ∧ Hid (RS wr w.heap.size g bs b ε) ∧ Hid (ps.length = q) ∧ Hid (ps.map (·.1) = dl) ∧ Hid (OwnD wr w.heap.size va ps) ∧ Hid (Fr No w wr)) (fun _ ix _ => N - (intOf ix).toNat)
        case atStart => exact ⟨0, a, e, [], [], by omega, rfl, hide rfl, HRSp, hide rfl, hide rfl, hide (OwnD.nil _ _), HFp⟩
        case round =>
          obtain ⟨wo, rfl⟩ : ∃ wo : World, wo = wr := ⟨_, rfl⟩
          obtain ⟨q, b, ε, dl, ps, hq, rfl, HD, HRS, HPl, HPd, HOD, HFr⟩ := hrel
          obtain ⟨Ar, cr, ⟨c0, c1, c2⟩, hf, _⟩ := HRS.out.parts
          obtain ⟨gb, hgb⟩ : ∃ gb, gb = decide (q < N ∧ ε = 0) := ⟨_, rfl⟩
          have HGb := hide hgb
          clear hgb HRSp HFp
          go_upto_region 11 with (fail)
          refine wp_named fun K hK => ?_
          go_cut [52] from 43 to 52 (fun v wx => v = .bool gb ∧ wx = wo)
          case first =>
            by_cases h1 : q < N
            · by_cases h2 : ε = 0
              · have HX : Hid (gb = true) := hide (by rw [HGb.out]; exact decide_eq_true ⟨h1, h2⟩)
                subst h2
                have d1 : decide ((q : Int) < (N : Int)) = true := decide_eq_true (by omega)
                go_wp2
                go_meet
                exact ⟨by rw [HX.out], rfl⟩
              · have HX : Hid (gb = false) := hide (by rw [HGb.out]; exact decide_eq_false (fun h => h2 h.2))
                have d1 : decide ((q : Int) < (N : Int)) = true := decide_eq_true (by omega)
                have d2 : (ε == 0) = false := by simpa using h2
                clear h2
                go_wp2
                go_meet
                exact ⟨by rw [HX.out], rfl⟩
            · have HX : Hid (gb = false) := hide (by rw [HGb.out]; exact decide_eq_false (fun h => h1 h.1))
              have d1 : decide ((q : Int) < (N : Int)) = false := decide_eq_false (by omega)
              have d3 : decide (q < N) = false := decide_eq_false h1
              go_wp2
              go_meet
              exact ⟨by rw [HX.out], rfl⟩
          case rest =>
            obtain ⟨rfl, hw⟩ := hcut
            have hw := hw.symm
            subst hw
            refine hK _ _ ?_
            clear hK K
            cases gb with
            | true =>
              obtain ⟨hqN, rfl⟩ : q < N ∧ ε = 0 := of_decide_eq_true HGb.out.symm
              obtain ⟨n0, b1, ε1, hz0⟩ : ∃ k x y, sizeS bs b 0 64 = (k, x, y) := ⟨_, _, _, rfl⟩
              have hn64 : n0 ≤ 64 := by have := sizeS_le (bs := bs) (a := b) (e := 0) (most := 64) (by omega); rw [hz0] at this; dsimp only at this; omega
              have HZ0 := hide hz0
              have HA := hide (refN_any w.heap.size g bs b 0 64 wo HRS.out (by omega))
              rw [hz0] at HA
              clear hz0
              go_wp2_with (fail)
              refine HA.out.mono ?_
              rintro en w4 ⟨rfl, hrs, hfr⟩
              have HRS4 := hide hrs
              have HF4 : Hid (Fr (Is g) wo w4) := hide hfr
              clear hrs hfr c0 c1 c2 hf
              go_wp2_with (fail)
              go_loopw [10, 12] (fun va ix wx => ∃ (k b2 : Nat) (ε2 : Int) (el : List EntV) (es : List EntL), k ≤ n0 ∧ ix = .int .i64 k ∧ Hid (entsR bs k b1 ε1 = (el, b2, ε2)) ∧ Hid (RS wx w.heap.size g bs b2 ε2) ∧ Hid (es.length = k) ∧ Hid (es.map (·.1) = el) ∧ Hid (OwnEs wx wo.heap.size va k es) ∧ Hid (Fr (Is g) wo wx)) (fun _ ix _ => n0 - (intOf ix).toNat)
              case atStart => exact ⟨0, b1, ε1, [], [], by omega, rfl, hide rfl, HRS4, hide rfl, hide rfl, hide (OwnEs.nil _ _), HF4⟩
              case round =>
                obtain ⟨wx, rfl⟩ : ∃ wx : World, wx = wr := ⟨_, rfl⟩
                obtain ⟨k, b2, ε2, el, es, hk, rfl, HE, HRSx, HEl, HEm, HOE, HFx⟩ := hrel
                obtain ⟨Ar, cr, ⟨c0, c1, c2⟩, hf, _⟩ := HRSx.out.parts
                obtain ⟨gb2, hgb2⟩ : ∃ gb, gb = decide (k < n0 ∧ ε2 = 0) := ⟨_, rfl⟩
                have HGb2 := hide hgb2
                clear hgb2 HRS4 HF4
                go_upto_region 16 with (fail)
                refine wp_named fun K hK => ?_
                go_cut [66] from 57 to 66 (fun v wy => v = .bool gb2 ∧ wy = wx)
                case first =>
                  by_cases h1 : k < n0
                  · by_cases h2 : ε2 = 0
                    · have HX : Hid (gb2 = true) := hide (by rw [HGb2.out]; exact decide_eq_true ⟨h1, h2⟩)
                      subst h2
                      have d1 : decide ((k : Int) < (n0 : Int)) = true := decide_eq_true (by omega)
                      go_wp2
                      go_meet
                      exact ⟨by rw [HX.out], rfl⟩
                    · have HX : Hid (gb2 = false) := hide (by rw [HGb2.out]; exact decide_eq_false (fun h => h2 h.2))
                      have d1 : decide ((k : Int) < (n0 : Int)) = true := decide_eq_true (by omega)
                      have d2 : (ε2 == 0) = false := by simpa using h2
                      clear h2
                      go_wp2
                      go_meet
                      exact ⟨by rw [HX.out], rfl⟩
                  · have HX : Hid (gb2 = false) := hide (by rw [HGb2.out]; exact decide_eq_false (fun h => h1 h.1))
                    have d1 : decide ((k : Int) < (n0 : Int)) = false := decide_eq_false (by omega)
                    have d3 : decide (k < n0) = false := decide_eq_false h1
                    go_wp2
                    go_meet
                    exact ⟨by rw [HX.out], rfl⟩
                case rest =>
                  obtain ⟨rfl, hw⟩ := hcut
                  have hw := hw.symm
                  subst hw
                  refine hK _ _ ?_
                  clear hK K
                  cases gb2 with
                  | true =>
                    obtain ⟨hkn, rfl⟩ : k < n0 ∧ ε2 = 0 := of_decide_eq_true HGb2.out.symm
                    obtain ⟨s1, x1, y1, ht1⟩ : ∃ s x y, textS bs b2 0 24 = (s, x, y) := ⟨_, _, _, rfl⟩
                    obtain ⟨s2, x2, y2, ht2⟩ : ∃ s x y, textS bs x1 y1 4096 = (s, x, y) := ⟨_, _, _, rfl⟩
                    obtain ⟨n1, x3, y3, ht3⟩ : ∃ s x y, sizeS bs x2 y2 4 = (s, x, y) := ⟨_, _, _, rfl⟩
                    have h4 : n1 ≤ 4 := by have := sizeS_le (bs := bs) (a := x2) (e := y2) (most := 4) (by omega); rw [ht3] at this; dsimp only at this; omega
                    obtain ⟨wE, hwE⟩ : ∃ wE, wE = wx.alloc (.cells #[.string ⟨#[]⟩, .string ⟨#[]⟩, .slice none 0 0] 109) := ⟨_, rfl⟩
                    obtain ⟨E, hE⟩ : ∃ E, E = wx.heap.size := ⟨_, rfl⟩
                    have HE0 : Hid (wE.heap[E]? = some (.cells #[.string ⟨#[]⟩, .string ⟨#[]⟩, .slice none 0 0] 109 (0, 0))) := hide (by rw [hwE, hE]; exact heap_alloc_new wx _)
                    have HFE : Hid (Fr No wx wE) := hide (by rw [hwE]; exact (Fr.refl No wx).alloc _)
                    have HgE : Hid (E ≠ g) := hide (by have := HRSx.out.lt; omega)
                    have HEx : Hid (wx.heap.size ≤ E) := hide (by omega)
                    have HWE := hide hwE
                    have HEe := hide hE
                    have HT1 := hide (refT_any w.heap.size g bs b2 0 24 wE (HRSx.out.fr0 HFE.out) (by omega))
                    have HT2 := hide (fun W h => refT_any w.heap.size g bs x1 y1 4096 W h (by omega))
                    have HT3 := hide (fun W h => refN_any w.heap.size g bs x2 y2 4 W h (by omega))
                    rw [ht1] at HT1
                    rw [ht2] at HT2
                    rw [ht3] at HT3
                    have HEq := hide (entS_eq ht1 ht2 ht3)
                    clear ht1 ht2 ht3 hwE hE c0 c1 c2 hf
                    go_wp2_with (fail)
                    rw [← HWE.out, ← HEe.out]
                    refine HT1.out.mono ?_
                    rintro en w5 ⟨rfl, hrs, hfr⟩
                    have hE5 := hfr.blk HE0.out (fun e => HgE.out e)
                    obtain ⟨T1, hT1⟩ : ∃ T : ByteArray, T = ⟨s1.toArray⟩ := ⟨_, rfl⟩
                    rw [← hT1] at HEq ⊢
                    have k5 : w5.cell? ⟨E, 0, none⟩ = some (.string ⟨#[]⟩) := cell_of_row _ _ 0 _ _ _ hE5
                    have z5 : w5.frozen? ⟨E, 0, none⟩ = false := frozen_of_row _ _ _ _ _ hE5
                    obtain ⟨w6, hw6⟩ : ∃ w6, w6 = w5.setCell ⟨E, 0, none⟩ (.string T1) := ⟨_, rfl⟩
                    have HE6 : Hid (w6.heap[E]? = some (.cells #[.string T1, .string ⟨#[]⟩, .slice none 0 0] 109 (0, 0))) := hide (by
                      rw [hw6]
                      have := heap_setCell_same w5 E 0 #[.string ⟨#[]⟩, .string ⟨#[]⟩, .slice none 0 0] 109 (.string T1) hE5
                      simpa using this)
                    have hrsE : ∀ (W W' : World) (a' : Nat) (e' : Int), RS W w.heap.size g bs a' e' → Fr (Is E) W W' → RS W' w.heap.size g bs a' e' := fun _ _ _ _ h f => h.fr f (fun e => HgE.out e.symm) (fun k hk e => by have e : k = E := e; have h1 := HEx.out; have h2 := HFr.out.size; have h3 := HFx.out.size; omega)
                    have HRE := hide hrsE
                    have f6 : Fr (Is E) w5 w6 := by rw [hw6]; exact (Fr.refl (Is E) w5).put 0 _
                    have HF6 : Hid (Fr (Is g) wx w6) := hide (((HFE.out.any (Is g)).ts hfr).trans f6 (fun j hj e => by have e : j = E := e; have := HEx.out; omega))
                    have HT2b := hide (HT2.out w6 (hrsE _ _ _ _ hrs f6))
                    have HW6 := hide hw6
                    clear hrs hfr hE5 hT1 hrsE f6 hw6 HT1 HT2
                    go_wp2_with (fail)
                    rw [← HW6.out]
                    refine HT2b.out.mono ?_
                    rintro en w7 ⟨rfl, hrs, hfr⟩
                    have hE7 := hfr.blk HE6.out (fun e => HgE.out e)
                    obtain ⟨T2, hT2⟩ : ∃ T : ByteArray, T = ⟨s2.toArray⟩ := ⟨_, rfl⟩
                    rw [← hT2] at HEq ⊢
                    have k7 : w7.cell? ⟨E, 1, none⟩ = some (.string ⟨#[]⟩) := cell_of_row _ _ 1 _ _ _ hE7
                    have z7 : w7.frozen? ⟨E, 1, none⟩ = false := frozen_of_row _ _ _ _ _ hE7
                    obtain ⟨w8, hw8⟩ : ∃ w8, w8 = w7.setCell ⟨E, 1, none⟩ (.string T2) := ⟨_, rfl⟩
                    have HE8 : Hid (w8.heap[E]? = some (.cells #[.string T1, .string T2, .slice none 0 0] 109 (0, 0))) := hide (by
                      rw [hw8]
                      have := heap_setCell_same w7 E 1 #[.string T1, .string ⟨#[]⟩, .slice none 0 0] 109 (.string T2) hE7
                      simpa using this)
                    have f8 : Fr (Is E) w7 w8 := by rw [hw8]; exact (Fr.refl (Is E) w7).put 1 _
                    have HF8 : Hid (Fr (Is g) wx w8) := hide ((HF6.out.ts hfr).trans f8 (fun j hj e => by have e : j = E := e; have := HEx.out; omega))
                    have HT3b := hide (HT3.out w8 (HRE.out _ _ _ _ hrs f8))
                    have HW8 := hide hw8
                    clear hrs hfr hE7 hT2 f8 hw8 HT2b HT3 k5 z5
                    go_wp2_with (fail)
                    rw [← HW8.out]
                    refine HT3b.out.mono ?_
                    rintro en w9 ⟨rfl, hrs, hfr⟩
                    have HRS9 := hide hrs
                    have HE9 := hide (hfr.blk HE8.out (fun e => HgE.out e))
                    have HF9 : Hid (Fr (Is g) wx w9) := hide (HF8.out.ts hfr)
                    clear hrs hfr HT3b k7 z7
                    go_wp2_with (fail)
                    go_loopw [15] (fun ix wy => ∃ (j ae cn : Nat) (An : Option Addr) (ee : Int) (ns : List Int), j ≤ n1 ∧ ix = .int .i64 j ∧ Hid (intsS bs j x3 y3 = (ns, ae, ee)) ∧ Hid (RS wy w.heap.size g bs ae ee) ∧ Hid (wy.heap[E]? = some (.cells #[.string T1, .string T2, .slice An j cn] 109 (0, 0))) ∧ Hid (Own wy (E + 1) 2 1 (.slice An j cn) j (iz .i64 ns)) ∧ Hid (Fr (Is g) wx wy) ∧ Hid (E < wy.heap.size)) (fun ix _ => n1 - (intOf ix).toNat)
                    case atStart => exact ⟨0, x3, 0, none, y3, [], by omega, rfl, hide rfl, HRS9, HE9, hide (Own.nil _ _ _ _), HF9, hide (Array.getElem?_eq_some_iff.1 HE9.out).1⟩
                    case round =>
                      obtain ⟨wy, rfl⟩ : ∃ wy : World, wy = wr := ⟨_, rfl⟩
                      obtain ⟨j, ae, cn, An, ee, ns, hj, rfl, HIn, HRSy, HEy, HOy, HFy, HEl2⟩ := hrel
                      clear HRS9 HE9 HF9 HF8 HE8 HF6 HE6
                      by_cases hjn : j < n1
                      · obtain ⟨x, a6, e6, hu⟩ : ∃ x a e, uintR bs ae ee = (x, a, e) := ⟨_, _, _, rfl⟩
                        have HInt := hide (refI_any w.heap.size g bs ae ee wy HRSy.out)
                        rw [hu] at HInt
                        obtain ⟨y, hy⟩ : ∃ y, y = unzz x := ⟨_, rfl⟩
                        have HNx : Hid (intsS bs (j + 1) x3 y3 = (ns ++ [y], a6, e6)) := hide (by
                          unfold intsS
                          rw [HIn.out]
                          dsimp only
                          rw [hu, hy])
                        rw [← hy] at HInt
                        clear hu hy
                        go_wp2_with (fail)
                        refine HInt.out.mono ?_
                        rintro en w10 ⟨rfl, hrs, hfr⟩
                        have HRS10 := hide hrs
                        have HE10 := hide (hfr.blk HEy.out (fun e => HgE.out e))
                        have hO10 : Own w10 (E + 1) 2 1 (.slice An j cn) j (iz .i64 ns) := by
                          obtain ⟨Ag, cg, hgr, _⟩ := HRSy.out
                          exact HOy.out.off hfr (off_is hgr (by decide))
                        have HF10 : Hid (Fr (Is g) wx w10) := hide (HFy.out.ts hfr)
                        have k10 : w10.cell? ⟨E, 2, none⟩ = some (.slice An j cn) := cell_of_row _ _ 2 _ _ _ HE10.out
                        have hl10 := Nat.lt_of_lt_of_le HEl2.out hfr.size
                        have fa : Fr No w10 (w10.alloc (.cells #[.int .i64 y] 2)) := (Fr.refl No w10).alloc _
                        have HOa := hide (hO10.fr0 fa)
                        have HSa := hide (Src.one (P := Try.prog) w10 (e := 2) Try.underlying41 (.int .i64 y) rfl)
                        have HEa := hide (fa.blk HE10.out (fun h => h))
                        have b1' : (j + 1) * 8 ≤ 140737488355328 := by omega
                        have b2' : j + 1 ≤ maxLen := by unfold maxLen; omega
                        have b3' : E + 1 ≤ (w10.alloc (.cells #[.int .i64 y] 2)).heap.size := by have := fa.size; omega
                        have HLa := hide hl10
                        clear hrs hfr hO10 fa hl10
                        go_wp2_with (first | (at_builtin; refine wpList_append_gen _ rfl (.tmp 85) (.tmp 87) 41 41 rfl (E + 1) 2 iI (.int .i64 0) 1 8 Try.underlying41 hiI hzI hsI hbI rfl (.slice An j cn) j (iz .i64 ns) rfl HOa.out _ 1 [.int .i64 y] rfl HSa.out b1' b2' b3' ?_; intro v11 w11 hown hfr hat; obtain ⟨A11, c11, rfl, _⟩ := hown.form; have HO11 := hide hown; have HF11 := hide hfr; have hE11 := hfr.blk HEa.out (fun e => by have := (HOa.out.lt E e).1; omega); have HE11 := hide hE11; have k11 : w11.cell? ⟨E, 2, none⟩ = some (.slice An j cn) := cell_of_row _ _ 2 _ _ _ hE11; have z11 : w11.frozen? ⟨E, 2, none⟩ = false := frozen_of_row _ _ _ _ _ hE11; clear hown hfr hat hE11) | fail)
                        go_roundw
                        case measure => simp [intOf]; omega
                        case rel =>
                          have f12 : Fr (Is E) w11 (w11.setCell ⟨E, 2, none⟩ (.slice A11 (j + 1) c11)) := (Fr.refl (Is E) w11).put 2 _
                          have r12 : (w11.setCell ⟨E, 2, none⟩ (.slice A11 (j + 1) c11)).heap[E]? = some (.cells #[.string T1, .string T2, .slice A11 (j + 1) c11] 109 (0, 0)) := by
                            have := heap_setCell_same w11 E 2 #[.string T1, .string T2, .slice An j cn] 109 (.slice A11 (j + 1) c11) HE11.out
                            simpa using this
                          have q1 : RS w11 w.heap.size g bs a6 e6 := by
                            have h := HRS10.out.fr0 ((Fr.refl No w10).alloc (.cells #[.int .i64 y] 2))
                            obtain ⟨Ag, cg, hgr, _⟩ := id h
                            exact h.fr HF11.out (fun e => HOa.out.ne_blk e hgr (by decide)) (fun k hk e => by have h1 := (HOa.out.lt k e).1; have h2 := HEx.out; have h3 := HFx.out.size; have h4 := HFr.out.size; omega)
                          refine ⟨j + 1, a6, c11, A11, e6, ns ++ [y], by omega, by go_num, HNx, hide (HRE.out _ _ _ _ q1 f12), hide r12, hide ?_, hide ?_, hide ?_⟩
                          · rw [show iz .i64 (ns ++ [y]) = iz .i64 ns ++ [.int .i64 y] by simp [iz]]
                            exact HO11.out.off f12 (off_is HE11.out (by decide))
                          · exact ((HF10.out.alloc (.cells #[.int .i64 y] 2)).own HF11.out (fun k hk => .inl (by have h1 := (HOa.out.lt k hk).1; have h2 := HEx.out; omega))).trans f12 (fun i hi e => by have e : i = E := e; have := HEx.out; omega)
                          · have h1 := ((Fr.refl No w10).alloc (.cells #[.int .i64 y] 2)).size
                            exact Nat.lt_of_lt_of_le HLa.out (Nat.le_trans h1 (Nat.le_trans HF11.out.size f12.size))
                      · obtain rfl : j = n1 := by omega
                        have hnl : ns.length = j := by have := intsS_len bs x3 y3 j; rw [HIn.out] at this; exact this
                        have hni : InI ns := by have := intsS_in bs x3 y3 j; rw [HIn.out] at this; exact this
                        have hen : entS bs b2 0 = (⟨T1, T2, ns⟩, ae, ee) := by rw [HEq.out, HIn.out]
                        have HNl := hide hnl
                        have HNi := hide hni
                        have HEn2 := hide hen
                        have q0 : wy.cell? ⟨E, 0, none⟩ = some (.string T1) := cell_of_row _ _ 0 _ _ _ HEy.out
                        have q1 : wy.cell? ⟨E, 1, none⟩ = some (.string T2) := cell_of_row _ _ 1 _ _ _ HEy.out
                        have q2 : wy.cell? ⟨E, 2, none⟩ = some (.slice An j cn) := cell_of_row _ _ 2 _ _ _ HEy.out
                        obtain ⟨Ax, cx, hgx, _⟩ := HRSx.out
                        have HGx := hide hgx
                        have fa : Fr No wy (wy.alloc (.cells #[.string T1, .string T2, .slice An j cn] 109)) := (Fr.refl No wy).alloc _
                        have HOe : Hid (OwnEs wy wo.heap.size u10 k es) := hide (HOE.out.off HFy.out (off_is hgx (by decide)) (off_is hgx (by decide)))
                        have HOe2 := hide (HOe.out.fr0 fa)
                        have HSa := hide (Src.ofRd (P := Try.prog) (size := 3) _ Try.underlying71 (some ⟨wy.heap.size, 0, none⟩) 1 1 [.string T1, .string T2, .slice An j cn] rfl (by omega) (Rd.block (heap_alloc_new wy (.cells #[.string T1, .string T2, .slice An j cn] 109))) (by simp [Value.oneCell']))
                        have b1' : (k + 1) * 56 ≤ 140737488355328 := by omega
                        have b2' : k + 1 ≤ maxLen := by unfold maxLen; omega
                        have b3' : wo.heap.size ≤ (wy.alloc (.cells #[.string T1, .string T2, .slice An j cn] 109)).heap.size := by
                          have h1 := HFx.out.size
                          have h2 := HFy.out.size
                          have h3 := fa.size
                          omega
                        clear hnl hni hen hgx fa hjn
                        go_wp2_with (first | (at_builtin; refine wpList_append_gen _ rfl (.tmp 90) (.tmp 92) 71 71 rfl wo.heap.size 109 iE _ 3 56 Try.underlying71 hiE hzE hsE hbE rfl u10 k (eFlat es) rfl HOe2.out.row _ 1 [.string T1, .string T2, .slice An j cn] rfl HSa.out b1' b2' b3' ?_; intro v13 w13 hown hfr hat; have HO13 := hide hown; have HF13 := hide hfr; clear hown hfr hat) | fail)
                        go_roundw
                        case measure => simp [intOf]; omega
                        case rel =>
                          have hlw : wx.heap.size ≤ E + 1 := by have := HEx.out; omega
                          have hnp : OwnN (wy.alloc (.cells #[.string T1, .string T2, .slice An j cn] 109)) wx.heap.size (⟨T1, T2, ns⟩, An, cn) := by
                            refine ⟨?_, HNi.out⟩
                            show Own _ _ _ 1 (.slice An ns.length cn) ns.length (iz .i64 ns)
                            rw [HNl.out]
                            exact (HOy.out.lower hlw).fr0 ((Fr.refl No _).alloc _)
                          have hRS : RS w13 w.heap.size g bs ae ee := by
                            have h := HRSy.out.fr0 ((Fr.refl No wy).alloc (.cells #[.string T1, .string T2, .slice An j cn] 109))
                            obtain ⟨Ag, cg, hgr, _⟩ := id h
                            exact h.fr HF13.out (fun e => by
                              obtain ⟨_, cs', fz', hh⟩ := HOe2.out.row.cellsT e
                              rw [hgr] at hh
                              injection hh with hh
                              injection hh with _ hh
                              revert hh
                              decide) (fun k' hk' e => by have h1 := (HOe2.out.row.lt k' e).1; have h4 := HFr.out.size; omega)
                          refine ⟨k + 1, ae, ee, el ++ [⟨T1, T2, ns⟩], es ++ [(⟨T1, T2, ns⟩, An, cn)], by omega, by go_num, hide (by rw [entsR_go HE.out, HEn2.out]), hide hRS, hide (by rw [List.length_append, HEl.out]; rfl), hide (by rw [List.map_append, HEm.out]; rfl), hide ?_, hide ?_⟩
                          · refine HOE.out.snoc HOe2.out hnp HFx.out.size HF13.out ?_
                            have e : eRow (⟨T1, T2, ns⟩, An, cn) = [.string T1, .string T2, .slice An j cn] := by unfold eRow; rw [HNl.out]
                            rw [e]
                            exact HO13.out
                          · exact ((HFx.out.ts HFy.out).alloc _).own HF13.out (fun k' hk' => .inl (HOe2.out.row.lt k' hk').1)
                  | false =>
                    have HDR : Hid (docR bs b 0 = (el, b2, ε2)) := hide (by
                      have h := of_decide_eq_false HGb2.out.symm
                      unfold docR
                      rw [HZ0.out]
                      dsimp only
                      by_cases h1 : k < n0
                      · rw [entsR_stay (q := k) (by rw [HE.out]; exact fun h2 => h ⟨h1, h2⟩) n0 (by omega), HE.out]
                      · rw [show n0 = k by omega]; exact HE.out)
                    obtain ⟨Ad, cd, hvd, _⟩ := HOE.out.row.form
                    subst hvd
                    obtain ⟨Ax, cx, hgx, _⟩ := HRS.out
                    have HODx : Hid (OwnD wx w.heap.size u8 ps) := hide (HOD.out.off HFx.out (off_is hgx (by decide)) (off_is hgx (by decide)) (off_is hgx (by decide)))
                    have fa : Fr No wx (wx.alloc (.cells #[.slice Ad k cd] 71)) := (Fr.refl No wx).alloc _
                    have HODa := hide (HODx.out.fr0 fa)
                    have hkl : el.length = k := by rw [← HEm.out, List.length_map]; exact HEl.out
                    have HKl := hide hkl
                    have HOEa : Hid (OwnE (wx.alloc (.cells #[.slice Ad k cd] 71)) w.heap.size Ad cd el) := hide ⟨es, HEm.out, by rw [hkl]; exact (HOE.out.lower HFr.out.size).fr0 fa⟩
                    have hrow : Own (wx.alloc (.cells #[.slice Ad k cd] 71)) w.heap.size 71 1 u8 q (ps.map dVal) := by have h := HODa.out.row; rw [HPl.out] at h; exact h
                    have HRow := hide hrow
                    have HSa := hide (Src.one (P := Try.prog) wx (e := 71) Try.underlying57 (.slice Ad k cd) rfl)
                    have HFxw : Hid (Fr No w wx) := hide (HFr.out.is HFx.out HGl.out)
                    have b1' : (q + 1) * 24 ≤ 140737488355328 := by omega
                    have b2' : q + 1 ≤ maxLen := by unfold maxLen; omega
                    have b3' : w.heap.size ≤ (wx.alloc (.cells #[.slice Ad k cd] 71)).heap.size := by
                      have h1 := HFxw.out.size
                      have h3 := fa.size
                      omega
                    clear hgx fa hkl hrow c0 c1 c2 hf
                    go_wp2_with (first | (at_builtin; refine wpList_append_gen _ rfl (.tmp 94) (.tmp 96) 57 57 rfl w.heap.size 71 iD _ 1 24 Try.underlying57 hiD hzD hsD hbD rfl u8 q (ps.map dVal) rfl HRow.out _ 1 [.slice Ad k cd] rfl HSa.out b1' b2' b3' ?_; intro v14 w14 hown hfr hat; have HO14 := hide hown; have HF14 := hide hfr; clear hown hfr hat) | fail)
                    go_roundw
                    case measure => simp [intOf]; omega
                    case rel =>
                      have hRS : RS w14 w.heap.size g bs b2 ε2 := by
                        have h := HRSx.out.fr0 ((Fr.refl No wx).alloc (.cells #[.slice Ad k cd] 71))
                        obtain ⟨Ag, cg, hgr, _⟩ := id h
                        exact h.fr HF14.out (fun e => HRow.out.ne_blk e hgr (by decide)) (fun k' hk' e => by have h1 := (HRow.out.lt k' e).1; omega)
                      refine ⟨q + 1, b2, ε2, dl ++ [el], ps ++ [(el, Ad, cd)], by omega, by go_num, hide (by rw [docsR_go HD.out, HDR.out]), hide hRS, hide (by rw [List.length_append, HPl.out]; rfl), hide (by rw [List.map_append, HPd.out]; rfl), hide ?_, hide ?_⟩
                      · refine HODa.out.snoc (p := (el, Ad, cd)) HOEa.out HF14.out ?_
                        rw [HPl.out]
                        have e : dVal (el, Ad, cd) = .slice Ad k cd := by unfold dVal; rw [HKl.out]
                        rw [e]
                        exact HO14.out
                      · exact (HFxw.out.alloc _).own HF14.out (fun k' hk' => .inl (HRow.out.lt k' hk').1)
            | false =>
              have HAll : Hid (refRd bs = (dl, b, ε)) := hide (by
                have h := of_decide_eq_false HGb.out.symm
                rw [HRd.out]
                by_cases h1 : q < N
                · rw [docsR_stay (q := q) (by rw [HD.out]; exact fun h2 => h ⟨h1, h2⟩) N (by omega), HD.out]
                · rw [show N = q by omega]; exact HD.out)
              have HEnd := hide (fun (W : World) (h : RS W w.heap.size g bs b ε) => refEnd_any w.heap.size g bs b ε W h)
              obtain ⟨ev, hev⟩ : ∃ ev, ev = endE bs b ε := ⟨_, rfl⟩
              rw [← hev] at HEnd
              have HEv := hide hev
              have HO8 := hide HOD.out
              obtain ⟨A8, c8, rfl, y1, y2, _⟩ := HOD.out.row.form
              rw [HPl.out] at y1 ⊢
              obtain ⟨wb, hwb⟩ : ∃ wb : World, wb = wo := ⟨_, rfl⟩
              have HRSb : Hid (RS wb w.heap.size g bs b ε) := hide (by rw [hwb]; exact HRS.out)
              have HFb : Hid (Fr No w wb) := hide (by rw [hwb]; exact HFr.out)
              have HOb : Hid (OwnD wb w.heap.size (.slice A8 q c8) ps) := hide (by rw [hwb]; have h := HO8.out; rw [HPl.out] at h; exact h)
              rw [← hwb]
              clear hwb HRS HFr HOD HO8 hev c0 c1 c2 hf
              by_cases hbad : ev = 0
              · subst hbad
                have HEz : Hid (ε = 0) := hide (by
                  have h := HEv.out
                  unfold endE at h
                  split at h
                  · cases h
                  · exact h.symm)
                have HMy := hide (refRd_of (by rw [HAll.out, HEz.out]))
                have HCv := hide (fun (W : World) (f : Fr No w W) => conv_rd W A m c bs HL.out (HR.out.fr0 f))
                have hc0 := HCv.out wb.drew HFb.out.drew
                have HC0 := hide hc0
                obtain ⟨xs, hxs⟩ : ∃ xs, xs = buildB dl := ⟨_, rfl⟩
                have HXs := hide hxs
                have hdq : dl.length = q := by rw [← HPd.out, List.length_map]; exact HPl.out
                have HDq := hide hdq
                have HY := hide (And.intro y1 y2)
                clear hxs hdq
                by_cases heq : xs = bs
                · subst heq
                  go_wp2
                  refine wp_calm fun K hK => ?_
                  refine wp_region_held_drew (S := fun W => (convert 23 9 (.slice A m c)).run Try.prog W = .ok (.string ⟨xs.toArray⟩) W) (by kernel_rfl) HC0.out (fun hHeld => ?_)
                  refine wpAnyH_take (i := 0) (v := ?_) rfl (by kernel_rfl) (by kernel_rfl) (by kernel_rfl) (fun _ _ _ h => h) (Or.inl ⟨by kernel_rfl, ?_⟩) hHeld ?_
                  rotate_left 1
                  · (intro w' hSw; (try dsimp only at hSw); go_simp; try with_reducible rfl)
                  try simp only [Act.put, List.setIfInBounds_toArray, List.set_cons_zero, List.set_cons_succ]
                  refine wpAnyH_ready (rs := [1]) (by kernel_rfl) (by simp) ?_
                  refine AllReadyH.cons rfl (fun K1 hK1 => ?_) AllReadyH.nil
                  go_simp
                  go_at_call 87; refine (HEnd.out _ (RS.fr0 HRSb.out ((Fr.refl No wb).drew))).mono ?_; rintro en w20 ⟨rfl, hrs, hfr⟩; have HF20 : Hid (Fr No w w20) := hide (HFb.out.drew.is hfr HGl.out); have hc20 := HCv.out w20 HF20.out; have HO20 : Hid (OwnD w20 w.heap.size (.slice A8 q c8) ps) := hide (by obtain ⟨Ax, cx, hgx, _⟩ := HRSb.out; exact (HOb.out.fr0 ((Fr.refl No wb).drew)).off hfr (off_is hgx (by decide)) (off_is hgx (by decide)) (off_is hgx (by decide))); clear hrs hfr
                  refine hK1.out _ _ hc20 (fun hHeld => ?_)
                  clear hK1 K1
                  try simp only [Act.put, List.setIfInBounds_toArray, List.set_cons_zero, List.set_cons_succ]
                  refine wpAnyH_take (i := 2) (v := ?_) rfl (by kernel_rfl) (by kernel_rfl) (by kernel_rfl) (fun _ _ _ h => h) (Or.inl ⟨by kernel_rfl, ?_⟩) hHeld ?_
                  rotate_left 1
                  · (intro w' hSw; (try dsimp only at hSw); go_simp; try with_reducible rfl)
                  try simp only [Act.put, List.setIfInBounds_toArray, List.set_cons_zero, List.set_cons_succ]
                  refine wpAnyH_take (i := 3) (v := ?_) rfl (by kernel_rfl) (by kernel_rfl) (by kernel_rfl) (fun _ _ _ h => h) (Or.inl ⟨by kernel_rfl, ?_⟩) hHeld ?_
                  rotate_left 1
                  · (intro w' hSw; (try dsimp only at hSw); go_simp; try with_reducible rfl)
                  try simp only [Act.put, List.setIfInBounds_toArray, List.set_cons_zero, List.set_cons_succ]
                  refine wpAnyH_take (i := 4) (v := ?_) rfl (by kernel_rfl) (by kernel_rfl) (by kernel_rfl) (fun _ _ _ h => h) (Or.inl ⟨by kernel_rfl, ?_⟩) hHeld ?_
                  rotate_left 1
                  · (intro w' hSw; (try dsimp only at hSw); go_simp; try with_reducible rfl)
                  try simp only [Act.put, List.setIfInBounds_toArray, List.set_cons_zero, List.set_cons_succ]
                  refine wpAnyH_take (i := 7) (v := ?_) rfl (by kernel_rfl) (by kernel_rfl) (by kernel_rfl) (fun _ _ _ h => h) (Or.inl ⟨by kernel_rfl, ?_⟩) hHeld ?_
                  rotate_left 1
                  · (intro w' hSw; (try dsimp only at hSw); go_simp; try with_reducible rfl)
                  try simp only [Act.put, List.setIfInBounds_toArray, List.set_cons_zero, List.set_cons_succ]
                  refine wpAnyH_take (i := 8) (v := ?_) rfl (by kernel_rfl) (by kernel_rfl) (by kernel_rfl) (fun _ _ _ h => h) (Or.inl ⟨by kernel_rfl, ?_⟩) hHeld ?_
                  rotate_left 1
                  · (intro w' hSw; (try dsimp only at hSw); go_simp; try with_reducible rfl)
                  try simp only [Act.put, List.setIfInBounds_toArray, List.set_cons_zero, List.set_cons_succ]
                  refine wpAnyH_ready (rs := [5]) (by kernel_rfl) (by simp) ?_
                  refine AllReadyH.cons rfl (fun K1 hK1 => ?_) AllReadyH.nil
                  go_simp
                  go_at_call 40; refine (refBuild_any A8 q c8 w20.heap.size dl w20 HDq.out HY.out.1 HY.out.2 (Nat.le_refl _) (by have h := HO20.out.rd; rw [HPd.out] at h; exact h)).mono ?_; rintro en w21 ⟨v21, rfl, hown, hfr⟩; rw [← HXs.out] at hown; obtain ⟨A21, c21, rfl, _, _, _, hr21, _⟩ := hown.form; have HF21 : Hid (Fr No w w21) := hide (HF20.out.tr hfr); have hc21 := HCv.out w21 HF21.out; have hx21 := conv_rd w21 A21 xs.length c21 xs rfl hr21; have HO21 := hide (HO20.out.fr0 hfr); clear hown hfr hr21
                  refine hK1.out _ _ hc21 (fun hHeld => ?_)
                  clear hK1 K1
                  try simp only [Act.put, List.setIfInBounds_toArray, List.set_cons_zero, List.set_cons_succ]
                  refine wpAnyH_ready (rs := [6]) (by kernel_rfl) (by simp) ?_
                  refine AllReadyH.cons rfl (fun K1 hK1 => ?_) AllReadyH.nil
                  go_simp
                  refine hK1.out _ _ hc21 (fun hHeld => ?_)
                  clear hK1 K1
                  try simp only [Act.put, List.setIfInBounds_toArray, List.set_cons_zero, List.set_cons_succ]
                  refine wpAnyH_take (i := 9) (v := ?_) rfl (by kernel_rfl) (by kernel_rfl) (by kernel_rfl) (fun _ _ _ h => h) (Or.inl ⟨by kernel_rfl, ?_⟩) hHeld ?_
                  rotate_left 1
                  · (intro w' hSw; (try dsimp only at hSw); go_simp; try with_reducible rfl)
                  try simp only [Act.put, List.setIfInBounds_toArray, List.set_cons_zero, List.set_cons_succ]
                  refine wpAnyH_take (i := 10) (v := ?_) rfl (by kernel_rfl) (by kernel_rfl) (by kernel_rfl) (fun _ _ _ h => h) (Or.inl ⟨by kernel_rfl, ?_⟩) hHeld ?_
                  rotate_left 1
                  · (intro w' hSw; (try dsimp only at hSw); go_simp; try with_reducible rfl)
                  try simp only [Act.put, List.setIfInBounds_toArray, List.set_cons_zero, List.set_cons_succ]
                  refine wpAnyH_done (by kernel_rfl) ?_ _
                  go_simp
                  refine hK _ _ ?_
                  clear hK K
                  go_wp2
                  go_ret2
                  exact ⟨_, 0, rfl, HF21.out, .inl ⟨dl, ps, rfl, HXs.out.symm, HMy.out.1, HMy.out.2, HO21.out, HPd.out⟩⟩
                · have hne : ((⟨xs.toArray⟩ : ByteArray).toList == (⟨bs.toArray⟩ : ByteArray).toList) = false := str_ne (fun h => heq (by injection h with h; exact List.toArray_inj h))
                  have hne2 : (xs == bs) = false := by simpa using heq
                  have HNo : Hid (∀ ks cs, ¬ OpenOk bs ks cs) := hide (fun ks cs h => heq (by
                    have h1 := ok_read h (by have := HL.out; omega)
                    rw [HAll.out] at h1
                    injection h1 with h1 _
                    rw [HXs.out, h1]
                    exact h.form))
                  clear heq
                  go_wp2
                  refine wp_calm fun K hK => ?_
                  refine wp_region_held_drew (S := fun W => (convert 23 9 (.slice A m c)).run Try.prog W = .ok (.string ⟨bs.toArray⟩) W) (by kernel_rfl) HC0.out (fun hHeld => ?_)
                  refine wpAnyH_take (i := 0) (v := ?_) rfl (by kernel_rfl) (by kernel_rfl) (by kernel_rfl) (fun _ _ _ h => h) (Or.inl ⟨by kernel_rfl, ?_⟩) hHeld ?_
                  rotate_left 1
                  · (intro w' hSw; (try dsimp only at hSw); go_simp; try with_reducible rfl)
                  try simp only [Act.put, List.setIfInBounds_toArray, List.set_cons_zero, List.set_cons_succ]
                  refine wpAnyH_ready (rs := [1]) (by kernel_rfl) (by simp) ?_
                  refine AllReadyH.cons rfl (fun K1 hK1 => ?_) AllReadyH.nil
                  go_simp
                  go_at_call 87; refine (HEnd.out _ (RS.fr0 HRSb.out ((Fr.refl No wb).drew))).mono ?_; rintro en w20 ⟨rfl, hrs, hfr⟩; have HF20 : Hid (Fr No w w20) := hide (HFb.out.drew.is hfr HGl.out); have hc20 := HCv.out w20 HF20.out; have HO20 : Hid (OwnD w20 w.heap.size (.slice A8 q c8) ps) := hide (by obtain ⟨Ax, cx, hgx, _⟩ := HRSb.out; exact (HOb.out.fr0 ((Fr.refl No wb).drew)).off hfr (off_is hgx (by decide)) (off_is hgx (by decide)) (off_is hgx (by decide))); clear hrs hfr
                  refine hK1.out _ _ hc20 (fun hHeld => ?_)
                  clear hK1 K1
                  try simp only [Act.put, List.setIfInBounds_toArray, List.set_cons_zero, List.set_cons_succ]
                  refine wpAnyH_take (i := 2) (v := ?_) rfl (by kernel_rfl) (by kernel_rfl) (by kernel_rfl) (fun _ _ _ h => h) (Or.inl ⟨by kernel_rfl, ?_⟩) hHeld ?_
                  rotate_left 1
                  · (intro w' hSw; (try dsimp only at hSw); go_simp; try with_reducible rfl)
                  try simp only [Act.put, List.setIfInBounds_toArray, List.set_cons_zero, List.set_cons_succ]
                  refine wpAnyH_take (i := 3) (v := ?_) rfl (by kernel_rfl) (by kernel_rfl) (by kernel_rfl) (fun _ _ _ h => h) (Or.inl ⟨by kernel_rfl, ?_⟩) hHeld ?_
                  rotate_left 1
                  · (intro w' hSw; (try dsimp only at hSw); go_simp; try with_reducible rfl)
                  try simp only [Act.put, List.setIfInBounds_toArray, List.set_cons_zero, List.set_cons_succ]
                  refine wpAnyH_take (i := 4) (v := ?_) rfl (by kernel_rfl) (by kernel_rfl) (by kernel_rfl) (fun _ _ _ h => h) (Or.inl ⟨by kernel_rfl, ?_⟩) hHeld ?_
                  rotate_left 1
                  · (intro w' hSw; (try dsimp only at hSw); go_simp; try with_reducible rfl)
                  try simp only [Act.put, List.setIfInBounds_toArray, List.set_cons_zero, List.set_cons_succ]
                  refine wpAnyH_take (i := 7) (v := ?_) rfl (by kernel_rfl) (by kernel_rfl) (by kernel_rfl) (fun _ _ _ h => h) (Or.inl ⟨by kernel_rfl, ?_⟩) hHeld ?_
                  rotate_left 1
                  · (intro w' hSw; (try dsimp only at hSw); go_simp; try with_reducible rfl)
                  try simp only [Act.put, List.setIfInBounds_toArray, List.set_cons_zero, List.set_cons_succ]
                  refine wpAnyH_take (i := 8) (v := ?_) rfl (by kernel_rfl) (by kernel_rfl) (by kernel_rfl) (fun _ _ _ h => h) (Or.inl ⟨by kernel_rfl, ?_⟩) hHeld ?_
                  rotate_left 1
                  · (intro w' hSw; (try dsimp only at hSw); go_simp; try with_reducible rfl)
                  try simp only [Act.put, List.setIfInBounds_toArray, List.set_cons_zero, List.set_cons_succ]
                  refine wpAnyH_ready (rs := [5]) (by kernel_rfl) (by simp) ?_
                  refine AllReadyH.cons rfl (fun K1 hK1 => ?_) AllReadyH.nil
                  go_simp
                  go_at_call 40; refine (refBuild_any A8 q c8 w20.heap.size dl w20 HDq.out HY.out.1 HY.out.2 (Nat.le_refl _) (by have h := HO20.out.rd; rw [HPd.out] at h; exact h)).mono ?_; rintro en w21 ⟨v21, rfl, hown, hfr⟩; rw [← HXs.out] at hown; obtain ⟨A21, c21, rfl, _, _, _, hr21, _⟩ := hown.form; have HF21 : Hid (Fr No w w21) := hide (HF20.out.tr hfr); have hc21 := HCv.out w21 HF21.out; have hx21 := conv_rd w21 A21 xs.length c21 xs rfl hr21; have HO21 := hide (HO20.out.fr0 hfr); clear hown hfr hr21
                  refine hK1.out _ _ hc21 (fun hHeld => ?_)
                  clear hK1 K1
                  try simp only [Act.put, List.setIfInBounds_toArray, List.set_cons_zero, List.set_cons_succ]
                  refine wpAnyH_ready (rs := [6]) (by kernel_rfl) (by simp) ?_
                  refine AllReadyH.cons rfl (fun K1 hK1 => ?_) AllReadyH.nil
                  go_simp
                  refine hK1.out _ _ hc21 (fun hHeld => ?_)
                  clear hK1 K1
                  try simp only [Act.put, List.setIfInBounds_toArray, List.set_cons_zero, List.set_cons_succ]
                  refine wpAnyH_take (i := 9) (v := ?_) rfl (by kernel_rfl) (by kernel_rfl) (by kernel_rfl) (fun _ _ _ h => h) (Or.inl ⟨by kernel_rfl, ?_⟩) hHeld ?_
                  rotate_left 1
                  · (intro w' hSw; (try dsimp only at hSw); go_simp; try with_reducible rfl)
                  try simp only [Act.put, List.setIfInBounds_toArray, List.set_cons_zero, List.set_cons_succ]
                  refine wpAnyH_take (i := 10) (v := ?_) rfl (by kernel_rfl) (by kernel_rfl) (by kernel_rfl) (fun _ _ _ h => h) (Or.inl ⟨by kernel_rfl, ?_⟩) hHeld ?_
                  rotate_left 1
                  · (intro w' hSw; (try dsimp only at hSw); go_simp; try with_reducible rfl)
                  try simp only [Act.put, List.setIfInBounds_toArray, List.set_cons_zero, List.set_cons_succ]
                  refine wpAnyH_done (by kernel_rfl) ?_ _
                  go_simp
                  refine hK _ _ ?_
                  clear hK K
                  go_wp2
                  go_ret2
                  exact ⟨_, 20, rfl, HF21.out, .inr ⟨rfl, rfl, HNo.out⟩⟩
              · have d1 : (ev != 0) = true := by simpa using hbad
                have HNo : Hid (∀ ks cs, ¬ OpenOk bs ks cs) := hide (fun ks cs h => hbad (by
                  have h1 := ok_read h (by have := HL.out; omega)
                  rw [HAll.out] at h1
                  injection h1 with _ h1
                  injection h1 with h1 h2
                  rw [HEv.out, h1, h2]
                  unfold endE
                  rw [if_neg (fun h => Nat.lt_irrefl _ h.2)]))
                clear hbad
                go_wp2
                refine wp_calm fun K hK => ?_
                refine wp_region_held_drew (S := fun _ => True) (by kernel_rfl) trivial (fun hHeld => ?_)
                refine wpAnyH_take (i := 0) (v := ?_) rfl (by kernel_rfl) (by kernel_rfl) (by kernel_rfl) (fun _ _ _ h => h) (Or.inl ⟨by kernel_rfl, ?_⟩) trivial ?_
                rotate_left 1
                · (intro w' hSw; (try dsimp only at hSw); go_simp; try with_reducible rfl)
                try simp only [Act.put, List.setIfInBounds_toArray, List.set_cons_zero, List.set_cons_succ]
                refine wpAnyH_ready (rs := [1]) (by kernel_rfl) (by simp) ?_
                refine AllReadyH.cons rfl (fun K1 hK1 => ?_) AllReadyH.nil
                go_simp
                go_at_call 87; refine (HEnd.out _ (RS.fr0 HRSb.out ((Fr.refl No wb).drew))).mono ?_; rintro en w20 ⟨rfl, hrs, hfr⟩; have HF20 : Hid (Fr No w w20) := hide (HFb.out.drew.is hfr HGl.out); clear hrs hfr
                refine hK1.out _ _ trivial (fun hHeld => ?_)
                clear hK1 K1
                try simp only [Act.put, List.setIfInBounds_toArray, List.set_cons_zero, List.set_cons_succ]
                refine wpAnyH_take (i := 2) (v := ?_) rfl (by kernel_rfl) (by kernel_rfl) (by kernel_rfl) (fun _ _ _ h => h) (Or.inl ⟨by kernel_rfl, ?_⟩) trivial ?_
                rotate_left 1
                · (intro w' hSw; (try dsimp only at hSw); go_simp; try with_reducible rfl)
                try simp only [Act.put, List.setIfInBounds_toArray, List.set_cons_zero, List.set_cons_succ]
                refine wpAnyH_take (i := 3) (v := ?_) rfl (by kernel_rfl) (by kernel_rfl) (by kernel_rfl) (fun _ _ _ h => h) (Or.inl ⟨by kernel_rfl, ?_⟩) trivial ?_
                rotate_left 1
                · (intro w' hSw; (try dsimp only at hSw); go_simp; try with_reducible rfl)
                try simp only [Act.put, List.setIfInBounds_toArray, List.set_cons_zero, List.set_cons_succ]
                refine wpAnyH_take (i := 4) (v := undef) rfl (by kernel_rfl) (by kernel_rfl) (by kernel_rfl) (fun _ _ _ h => h) (Or.inr ⟨by kernel_rfl, rfl⟩) trivial ?_
                try simp only [Act.put, List.setIfInBounds_toArray, List.set_cons_zero, List.set_cons_succ]
                refine wpAnyH_take (i := 5) (v := undef) rfl (by kernel_rfl) (by kernel_rfl) (by kernel_rfl) (fun _ _ _ h => h) (Or.inr ⟨by kernel_rfl, rfl⟩) trivial ?_
                try simp only [Act.put, List.setIfInBounds_toArray, List.set_cons_zero, List.set_cons_succ]
                refine wpAnyH_take (i := 6) (v := undef) rfl (by kernel_rfl) (by kernel_rfl) (by kernel_rfl) (fun _ _ _ h => h) (Or.inr ⟨by kernel_rfl, rfl⟩) trivial ?_
                try simp only [Act.put, List.setIfInBounds_toArray, List.set_cons_zero, List.set_cons_succ]
                refine wpAnyH_take (i := 7) (v := undef) rfl (by kernel_rfl) (by kernel_rfl) (by kernel_rfl) (fun _ _ _ h => h) (Or.inr ⟨by kernel_rfl, rfl⟩) trivial ?_
                try simp only [Act.put, List.setIfInBounds_toArray, List.set_cons_zero, List.set_cons_succ]
                refine wpAnyH_take (i := 8) (v := undef) rfl (by kernel_rfl) (by kernel_rfl) (by kernel_rfl) (fun _ _ _ h => h) (Or.inr ⟨by kernel_rfl, rfl⟩) trivial ?_
                try simp only [Act.put, List.setIfInBounds_toArray, List.set_cons_zero, List.set_cons_succ]
                refine wpAnyH_take (i := 9) (v := undef) rfl (by kernel_rfl) (by kernel_rfl) (by kernel_rfl) (fun _ _ _ h => h) (Or.inr ⟨by kernel_rfl, rfl⟩) trivial ?_
                try simp only [Act.put, List.setIfInBounds_toArray, List.set_cons_zero, List.set_cons_succ]
                refine wpAnyH_take (i := 10) (v := ?_) rfl (by kernel_rfl) (by kernel_rfl) (by kernel_rfl) (fun _ _ _ h => h) (Or.inl ⟨by kernel_rfl, ?_⟩) trivial ?_
                rotate_left 1
                · (intro w' hSw; (try dsimp only at hSw); go_simp; try with_reducible rfl)
                try simp only [Act.put, List.setIfInBounds_toArray, List.set_cons_zero, List.set_cons_succ]
                refine wpAnyH_done (by kernel_rfl) ?_ _
                go_simp
                refine hK _ _ ?_
                clear hK K
                go_wp2
                go_ret2
                exact ⟨_, 20, rfl, HF20.out, .inr ⟨rfl, rfl, HNo.out⟩⟩
end Go.Proofs.Ytpnhnnhocekchaa
