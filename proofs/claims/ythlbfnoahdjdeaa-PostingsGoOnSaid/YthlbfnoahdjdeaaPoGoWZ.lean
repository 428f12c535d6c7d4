/- PostingsGoOn, walked. -/
import Derived.Test.YthlbfnoahdjdeaaK20
namespace Go.Proofs.Ythlbfnoahdjdeaa
set_option linter.unusedVariables false
set_option linter.unusedSimpArgs false
open Go.RowKit

set_option maxRecDepth 100000 in
set_option maxHeartbeats 8000000 in
theorem pogoon_any (A0 A1 : Option Addr) (n0 c0 n1 c1 : Nat) (l : List Po) (ds : List Int) (w : World)
    (h0 : l.length = n0) (x0 : n0 ≤ c0) (y0 : c0 ≤ maxLen) (z0 : n0 * 32 ≤ 140737488351232) (r0 : RdPo w w.heap.size A0 l) (i0 : InI2 l) (s0 : ∀ e ∈ l, (e.2.length + 1) * 8 ≤ 140737488355328)
    (h1 : ds.length = n1) (x1 : n1 ≤ c1) (y1 : c1 ≤ maxLen) (r1 : Rd w w.heap.size A1 (iz .i64 ds)) :
    Calls Try.prog 5 #[.slice A0 n0 c0, .slice A1 n1 c1] w (RetB true w) := by
  have HL := hide h0
  have HL1 := hide h1
  have HR0 := hide r0
  have HR1 := hide r1
  have HBt := hide (pbuild_any A0 n0 c0 w.heap.size l w h0 x0 y0 (Nat.le_refl _) r0 i0 (show ∀ x ∈ l, x.2.length ≤ 140737488351232 from fun x hx => by have := s0 x hx; omega))
  have HC := hide (And.intro (And.intro x0 y0) (And.intro x1 y1))
  unfold maxLen at y0 y1
  clear r0 h0 i0 s0 z0 r1 h1
  go_enter Try.func5, Try.ntmps5
  go_wp2_with (fail)
  refine HBt.out.mono ?_
  rintro en w1 hbp
  obtain ⟨hfr, A4, m, e, b, rfl, hbl, hob, hbd⟩ := pbuild_bd hbp
  have HF1 := hide hfr
  have HO1 := hide hob
  have HBd := hide hbd
  have HBl := hide hbl
  have hmb : m ≤ 20000000000 := by rw [← hbl]; exact bdP_le hbd
  clear hbp hfr hob hbd hbl HBt
  by_cases g0 : 200 < n0
  · have d1 : decide ((200 : Int) < (n0 : Int)) = true := decide_eq_true (by omega)
    have d1b : decide (200 < n0) = true := decide_eq_true g0
    clear g0
    go_wp2_with (go_at_call 9; refine (awake10_any _).mono ?_; rintro en w4 ⟨rfl, hfr⟩; have HF4 := hide (HF1.out.tr hfr); clear hfr)
    go_ret
    exact ⟨rfl, HF4.out⟩
  have d1 : decide ((200 : Int) < (n0 : Int)) = false := decide_eq_false (by omega)
  have d1b : decide (200 < n0) = false := decide_eq_false (by omega)
  by_cases g1 : 200 < n1
  · have d2 : decide ((200 : Int) < (n1 : Int)) = true := decide_eq_true (by omega)
    have d2b : decide (200 < n1) = true := decide_eq_true g1
    clear g0 g1
    go_wp2_with (go_at_call 9; refine (awake10_any _).mono ?_; rintro en w4 ⟨rfl, hfr⟩; have HF4 := hide (HF1.out.tr hfr); clear hfr)
    go_ret
    exact ⟨rfl, HF4.out⟩
  have d2 : decide ((200 : Int) < (n1 : Int)) = false := decide_eq_false (by omega)
  have d2b : decide (200 < n1) = false := decide_eq_false (by omega)
  rcases HBd.out with ⟨rfl, hok, hbs⟩ | ⟨rfl, _, _⟩
  rotate_left
  · clear g0 g1
    go_wp2_with (go_at_call 9; refine (awake10_any _).mono ?_; rintro en w4 ⟨rfl, hfr⟩; have HF4 := hide (HF1.out.tr hfr); clear hfr)
    go_ret
    exact ⟨rfl, HF4.out⟩
  have HFo : Hid (FormP b l) := hide ⟨hok, hbs.symm⟩
  have HOk := hide hok
  have hn0 : n0 ≤ 200 := by omega
  have hn1 : n1 ≤ 200 := by omega
  clear hok hbs HBd g0 g1
  go_wp2_with (fail)
  refine (awake10_any w1).mono ?_
  rintro en w2 ⟨rfl, hfr⟩
  have HF2 := hide (HF1.out.tr hfr)
  have HOp := hide (popen_any A4 m m w2.heap.size b w2 HBl.out (Nat.le_refl _) (by unfold maxLen; omega) (by omega) (Nat.le_refl _) (HO1.out.fr0 hfr).rd)
  clear hfr HO1
  go_wp2_with (fail)
  refine HOp.out.mono ?_
  rintro en w3 ⟨hfr, (⟨G, l', hf, rfl, hl⟩ | ⟨hno, _⟩)⟩
  rotate_left
  · exact absurd HFo.out (hno _)
  obtain rfl := buildP_inj hf HFo.out
  have HF3 := hide (HF2.out.tr hfr)
  have HL3 := hide hl
  obtain ⟨nl, hnl⟩ : ∃ nl, l'.length = nl := ⟨_, rfl⟩
  have HNl := hide hnl
  clear hfr hf hl HOp hnl
  go_wp2_with (fail)
  refine (newIt_any (.pointer (some ⟨G, 0, none⟩)) ⟨_, rfl⟩ l' w3).mono ?_
  rintro en w4 ⟨X, rfl, hit, hfr⟩
  have HIx := hide hit
  have HF4 := hide hfr
  clear hit hfr
  go_wp2_with (fail)
  refine (newIt_any (.pointer (some ⟨G, 0, none⟩)) ⟨_, rfl⟩ l' w4).mono ?_
  rintro en w5 ⟨Y, rfl, hit, hfr⟩
  have HT5 : Hid (TwoM w w5 w3.heap.size w4.heap.size w2.heap.size X Y (.pointer (some ⟨G, 0, none⟩)) l' .start .start) := hide (by
    have hx := HIx.out.fr0 hfr
    obtain ⟨cs, hX⟩ := HIx.out.row
    have hXl := (Array.getElem?_eq_some_iff.1 hX).1
    exact ⟨hx, hit, .inr ⟨G, _, rfl, (HL3.out.fr0 HF4.out).fr0 hfr⟩, HF3.out.tr (HF4.out.tr hfr), Nat.le_trans HF3.out.size hx.lo, Nat.le_trans (HF3.out.tr HF4.out).size hit.lo, fun e => by have := hit.lo; omega⟩)
  clear hit hfr HIx HF4 HL3 HF3 HF2
  go_wp2_with (fail)
  go_loopw [11] (fun ix wr => ∃ (i : Nat) (s : ItS), i ≤ n1 ∧ ix = .int .i64 i ∧ Hid (TwoM w wr w3.heap.size w4.heap.size w2.heap.size X Y (.pointer (some ⟨G, 0, none⟩)) l' s s)) (fun ix _ => n1 - (intOf ix).toNat)
  case atStart => exact ⟨0, .start, Nat.zero_le _, rfl, HT5⟩
  case round =>
    obtain ⟨wo, rfl⟩ : ∃ wo : World, wo = wr := ⟨_, rfl⟩
    obtain ⟨i, s, hi, rfl, HT⟩ := hrel
    clear HT5
    by_cases hlt : i < n1
    · obtain ⟨ad, rfl, _, kd⟩ := (HR1.out.fr0 HT.out.fr).intAt (j := i) (by rw [HL1.out]; exact hlt)
      obtain ⟨d, hd⟩ : ∃ d, ds.getD i 0 = d := ⟨_, rfl⟩
      have kd0 := HR1.out.intAt (j := i) (by rw [HL1.out]; exact hlt)
      obtain ⟨ad', e1, _, kd1⟩ := kd0
      injection e1 with e1
      subst e1
      rw [hd] at kd kd1
      have HKd := hide (fun W (f : Fr No w W) => f.cell kd1 (fun h => h))
      have HD1 := hide (itDoc_any _ X _ l' s wo HT.out.x)
      have q0 : (0 : Int) ≤ (i : Int) := by omega
      have q1 : (i : Int) < (n1 : Int) := by omega
      clear kd kd1 hd
      go_wp2_with (fail)
      refine HD1.out.mono ?_
      rintro en w6 ⟨rfl, hq⟩
      have HT6 := hide (HT.out.q hq)
      have kd6 := HKd.out w6 HT6.out.fr
      have HAd := hide (adv_any _ _ X _ l' s d w6 HT6.out.x HT6.out.lv HOk.out)
      have HOks := hide HT.out.x.ok
      clear hq HD1 HT
      go_wp2_with (fail)
      refine HAd.out.mono ?_
      rintro en w7 ⟨hfr, k, hk, rfl, hit⟩
      have HT7 := hide (HT6.out.goX hfr hit)
      have HKk := hide hk
      clear hfr hk hit HAd kd6 HT6
      go_upto_block 2 with (fail)
      refine wp_named fun K hK => ?_
      go_cut [] from 61 to 75 (fun wx => Hid (TwoM w wx w3.heap.size w4.heap.size w2.heap.size X Y (.pointer (some ⟨G, 0, none⟩)) l' (stS l' k) (stS l' k)))
      case first =>
        have HM0 := hide (mid_start (d := d) HOks.out)
        go_wp2_with (fail)
        go_loopw [] (fun wr => ∃ t : ItS, Hid (TwoM w wr w3.heap.size w4.heap.size w2.heap.size X Y (.pointer (some ⟨G, 0, none⟩)) l' (stS l' k) t) ∧ Hid (MidG l' d s t)) (fun wr => mIt wr Y l')
        case atStart => exact ⟨s, HT7, HM0⟩
        case round =>
          obtain ⟨wz, rfl⟩ : ∃ wz : World, wz = wr := ⟨_, rfl⟩
          obtain ⟨t, HTz, HMz⟩ := hrel
          clear HT7 HM0
          have kdz := HKd.out wz HTz.out.fr
          have HDy := hide (fun q => itDoc_any _ Y _ l' t (wz.drewN q) (HTz.out.y.fr0 ((Fr.refl No wz).drewN q)))
          have HSt := hide (mid_step HOk.out HMz.out HKk.out)
          have HSo := hide (mid_stop HOk.out HMz.out HKk.out)
          unfold goOn at HSt HSo
          obtain ⟨v, hv⟩ : ∃ v, docS l' t = v := ⟨_, rfl⟩
          rw [hv] at HDy HSt HSo
          have HNx := hide (fun q => next_any _ _ Y _ l' t (wz.drewN q) (HTz.out.y.fr0 ((Fr.refl No wz).drewN q)) (HTz.out.lv.fr0 ((Fr.refl No wz).drewN q)) HOk.out)
          clear hv
          by_cases hg : v < d ∨ v < 0
          · have HSt2 := hide (HSt.out (by rw [Bool.or_eq_true]; exact hg.imp (fun h => decide_eq_true h) (fun h => decide_eq_true h)))
            obtain ⟨gb, hgb⟩ : ∃ gb, itOn (nxS l' t) = gb := ⟨_, rfl⟩
            rw [hgb] at HSt2
            have HGb := hide hgb
            go_upto_region 12 with (fail)
            refine wp_named fun K2 hK2 => ?_
            go_cut [72] from 61 to 72 (fun v wx => v = .bool true ∧ Hid (∃ q, wx = wz.drewN q))
            case first =>
              by_cases hg1 : v < d
              · have e1 : decide (v < d) = true := decide_eq_true hg1
                clear hg hg1
                go_quiet ((go_at_call 25; exact Calls.quiet_of (HDy.out _)))
                go_wp2_with (fail)
                go_meet
                exact ⟨rfl, hide ⟨_, rfl⟩⟩
              · have e1 : decide (v < d) = false := decide_eq_false hg1
                have e2 : decide (v < 0) = true := decide_eq_true (by omega)
                clear hg hg1
                go_quiet ((go_at_call 25; exact Calls.quiet_of (HDy.out _)))
                go_wp2_with (fail)
                go_meet
                exact ⟨rfl, hide ⟨_, rfl⟩⟩
            case rest =>
            obtain ⟨rfl, HWq⟩ := hcut
            obtain ⟨wq, rfl⟩ : ∃ W : World, W = wc := ⟨_, rfl⟩
            refine hK2 _ _ ?_
            clear hK2 K2 kdz hg hgb
            have HTq := hide (HTz.out.q HWq.out)
            have HNy := hide (next_any _ _ Y _ l' t wq HTq.out.y HTq.out.lv HOk.out)
            go_wp2_with (fail)
            refine HNy.out.mono ?_
            rintro en w8 ⟨hfr, he, hit⟩
            rw [HGb.out] at he
            subst he
            have HT8 := hide (HTq.out.goY hfr hit)
            clear hfr hit HNy
            cases gb with
            | true =>
              go_wp2_with (fail)
              go_roundw
              case rel => exact ⟨nxS l' t, HT8, hide (HSt2.out.1 (by simp)).1⟩
              case measure =>
                have hl := right_16 HOk.out
                rw [mIt_of HTz.out.y hl, mIt_of HT8.out.y hl]
                exact (HSt2.out.1 (by simp)).2
            | false =>
              have hn := HSt2.out.2 (by simp)
              rw [hn] at HT8
              go_wp2_with (fail)
              go_meet
              exact HT8
          · have e1 : decide (v < d) = false := decide_eq_false (by omega)
            have e2 : decide (v < 0) = false := decide_eq_false (by omega)
            have ht := HSo.out (by rw [e1, e2]; rfl)
            subst ht
            clear hg
            go_wp2_with (fail)
            go_quiet ((go_at_call 25; exact Calls.quiet_of (HDy.out _)))
            go_wp2_with (fail)
            go_meet
            exact hide (HTz.out.fr0 ((Fr.refl No wz).drewN _))
      case rest =>
      obtain ⟨w8, rfl⟩ : ∃ W : World, W = wc := ⟨_, rfl⟩
      have HT8 : Hid (TwoM w w8 w3.heap.size w4.heap.size w2.heap.size X Y (.pointer (some ⟨G, 0, none⟩)) l' (stS l' k) (stS l' k)) := hcut
      refine hK _ _ ?_
      clear hK K hcut HT7
      have hmo := doc_mono HOk.out HOks.out HKk.out
      have hst := docS_st HOk.out k
      obtain ⟨gk, hgk⟩ : ∃ gk, decide (k < l'.length) = gk := ⟨_, rfl⟩
      rw [hgk]
      have HDx := hide (fun W hW => itDoc_any w3.heap.size X (.pointer (some ⟨G, 0, none⟩)) l' (stS l' k) W hW)
      have HDy := hide (fun W hW => itDoc_any w4.heap.size Y (.pointer (some ⟨G, 0, none⟩)) l' (stS l' k) W hW)
      have HFx := hide (fun W hW => itFreq_any w3.heap.size X (.pointer (some ⟨G, 0, none⟩)) l' (stS l' k) W hW)
      have HFy := hide (fun W hW => itFreq_any w4.heap.size Y (.pointer (some ⟨G, 0, none⟩)) l' (stS l' k) W hW)
      have HPx := hide (fun W hW => itPos_any w3.heap.size X (.pointer (some ⟨G, 0, none⟩)) l' (stS l' k) W hW HOk.out)
      have HPy := hide (fun W hW => itPos_any w4.heap.size Y (.pointer (some ⟨G, 0, none⟩)) l' (stS l' k) W hW HOk.out)
      have HPl := hide (posn_le HOk.out (stS l' k))
      obtain ⟨v, hv⟩ : ∃ v, docS l' (stS l' k) = v := ⟨_, rfl⟩
      obtain ⟨u, hu⟩ : ∃ u, docS l' s = u := ⟨_, rfl⟩
      obtain ⟨pz, hpz⟩ : ∃ z, posnS l' (stS l' k) = z := ⟨_, rfl⟩
      obtain ⟨pn, hpn⟩ : ∃ z, pz.length = z := ⟨_, rfl⟩
      rw [hv] at HDx HDy hmo hst
      rw [hpz] at HFx HFy HPx HPy HPl
      rw [hpn] at HFx HFy HPl
      rw [hu] at hmo ⊢
      have e1 : decide (v < u) = false := decide_eq_false hmo
      have e2 : (v != v) = false := by simp
      have e3 : ((pn : Int) != (pn : Int)) = false := by simp
      have e4 : decide (v < 16384) = gk := by rw [← hgk]; exact decide_eq_decide.2 hst.2.2
      have e5 : (gk != gk) = false := by simp
      have HPn := hide hpn
      clear hmo hst hv hu hpz hgk HKk hpn
      go_wp2_with (fail)
      refine (HDx.out w8 HT8.out.x).mono ?_
      rintro en w9 ⟨rfl, hq⟩
      have HT9 := hide (HT8.out.q hq)
      clear hq HT8
      go_wp2_with (fail)
      refine (HDx.out w9 HT9.out.x).mono ?_
      rintro en w10 ⟨rfl, hq⟩
      have HT10 := hide (HT9.out.q hq)
      clear hq HT9
      go_wp2_with (fail)
      refine (HDy.out w10 HT10.out.y).mono ?_
      rintro en w11 ⟨rfl, hq⟩
      have HT11 := hide (HT10.out.q hq)
      clear hq HT10
      go_wp2_with (fail)
      refine (HFx.out w11 HT11.out.x).mono ?_
      rintro en w12 ⟨rfl, hq⟩
      have HT12 := hide (HT11.out.q hq)
      clear hq HT11
      go_wp2_with (fail)
      refine (HFy.out w12 HT12.out.y).mono ?_
      rintro en w13 ⟨rfl, hq⟩
      have HT13 := hide (HT12.out.q hq)
      clear hq HT12
      go_wp2_with (fail)
      refine (HPx.out w13 HT13.out.x).mono ?_
      rintro en w14 ⟨vx, rfl, hown, hfr⟩
      rw [HPn.out] at hown
      obtain ⟨Ax, cx, rfl, x1, x2, -⟩ := hown.form
      have HOx := hide hown
      have HT14 := hide (HT13.out.fr0 hfr)
      clear hown hfr HT13
      go_wp2_with (fail)
      refine (HPy.out w14 HT14.out.y).mono ?_
      rintro en w15 ⟨vy, rfl, hown, hfr⟩
      rw [HPn.out] at hown
      obtain ⟨Ay, cy, rfl, y1, y2, -⟩ := hown.form
      have HT15 := hide (HT14.out.fr0 hfr)
      have HKi := hide (sameInt_any Ax Ay pn cx pn cy w15.heap.size w15.heap.size pz pz w15 HPn.out HPn.out x1 x2 y1 y2 (HOx.out.fr0 hfr).rd hown.rd)
      rw [decide_eq_true rfl] at HKi
      clear hown hfr HT14 x1 x2 y1 y2
      go_wp2_with (fail)
      refine HKi.out.mono ?_
      rintro en w16 ⟨rfl, hq⟩
      have HT16 := hide (HT15.out.q hq)
      clear hq HT15
      go_wp2_with (fail)
      refine (HDx.out w16 HT16.out.x).mono ?_
      rintro en w17 ⟨rfl, hq⟩
      have HT17 := hide (HT16.out.q hq)
      clear hq HT16
      go_wp2_with (fail)
      go_roundw
      case rel => exact ⟨i + 1, stS l' k, by omega, by go_num, HT17⟩
      case measure => simp [intOf]; omega
    · obtain rfl : i = n1 := by omega
      clear hlt
      go_wp2_with (fail)
      refine (newIt_any (.pointer (some ⟨G, 0, none⟩)) ⟨_, rfl⟩ l' wo).mono ?_
      rintro en w6 ⟨Z, rfl, hit, hfr⟩
      have HZ6 : Hid (WkM w w6 wo.heap.size w2.heap.size Z (.pointer (some ⟨G, 0, none⟩)) l' (sN 0)) := hide ⟨hit, HT.out.lv.fr0 hfr, HT.out.fr.tr hfr, Nat.le_trans HT.out.fr.size hit.lo⟩
      clear hit hfr HT
      go_wp2_with (fail)
      go_loopw [14] (fun ix wr => ∃ n : Nat, n ≤ n0 ∧ ix = .int .i64 n ∧ Hid (WkM w wr wo.heap.size w2.heap.size Z (.pointer (some ⟨G, 0, none⟩)) l' (sN n))) (fun ix _ => n0 - (intOf ix).toNat)
      case atStart => exact ⟨0, Nat.zero_le _, rfl, HZ6⟩
      case round =>
        obtain ⟨wy, rfl⟩ : ∃ wy : World, wy = wr := ⟨_, rfl⟩
        obtain ⟨n, hn, rfl, HZ⟩ := hrel
        clear HZ6
        have HNx := hide (next_any _ _ Z _ l' (sN n) wy HZ.out.it HZ.out.lv HOk.out)
        rw [nx_sN] at HNx
        by_cases hlt : n < n0
        · have hnl : n < l'.length := by rw [HL.out]; exact hlt
          rw [stS_in hnl] at HNx
          obtain ⟨E, hE⟩ : ∃ E, l'.getD n noPo = E := ⟨_, rfl⟩
          obtain ⟨bd, Bk, dk, rfl, -, f0, f1, q1, q2, q3⟩ := HR0.out.at hnl
          rw [hE] at f0 f1
          obtain ⟨pm, hpm⟩ : ∃ pm, E.2.length = pm := ⟨_, rfl⟩
          rw [hpm] at f1
          obtain ⟨dd, hdd⟩ : ∃ x, E.1 = x := ⟨_, rfl⟩
          rw [hdd] at f0
          have HCf := hide (And.intro f0 f1)
          have HDz := hide (fun W (hW : ItM W wo.heap.size Z (.pointer (some ⟨G, 0, none⟩)) l' (.here n)) => itDoc_any _ Z _ l' _ W hW)
          have HFz := hide (fun W (hW : ItM W wo.heap.size Z (.pointer (some ⟨G, 0, none⟩)) l' (.here n)) => itFreq_any _ Z _ l' _ W hW)
          rw [show docS l' (.here n) = dd by simp only [docS]; rw [hE, hdd]] at HDz
          rw [show (posnS l' (.here n)).length = pm by simp only [posnS]; rw [hE, hpm]] at HFz
          have e1 : decide ((n0 : Int) ≤ (n : Int)) = false := decide_eq_false (by omega)
          have e1b : decide (n0 ≤ n) = false := decide_eq_false (by omega)
          have e2 : (dd != dd) = false := by simp
          have e3 : ((pm : Int) != (pm : Int)) = false := by simp
          have j0 : (0 : Int) ≤ (n : Int) := by omega
          have j1 : (n : Int) < (n0 : Int) := by omega
          clear hnl hE hpm hdd f0 f1 q1 q2 q3
          go_wp2_with (fail)
          refine HNx.out.mono ?_
          rintro en w7 ⟨hfr, he, hit⟩
          simp only [itOn] at he
          subst he
          have HZ7 := hide (HZ.out.go hfr hit)
          have k0 := HZ7.out.fr.cell HCf.out.1 (fun h => h)
          have k1 := HZ7.out.fr.cell HCf.out.2 (fun h => h)
          have HDz7 := hide (fun q => HDz.out (w7.drewN q) (HZ7.out.it.fr0 ((Fr.refl No w7).drewN q)))
          have HFz7 := hide (fun q => HFz.out (w7.drewN q) (HZ7.out.it.fr0 ((Fr.refl No w7).drewN q)))
          clear hfr hit HNx HZ
          go_wp2_with (fail)
          go_quiet ((first | (go_at_call 25; exact Calls.quiet_of (HDz7.out _)) | (go_at_call 27; exact Calls.quiet_of (HFz7.out _))))
          go_wp2_with (fail)
          go_roundw
          case rel => exact ⟨n + 1, by omega, by go_num, hide (HZ7.out.fr0 ((Fr.refl No w7).drewN _))⟩
          case measure => simp [intOf]; omega
        · obtain rfl : n = n0 := by omega
          rw [stS_past (by rw [HL.out]; exact Nat.le_refl _)] at HNx
          clear hlt
          go_wp2_with (fail)
          refine HNx.out.mono ?_
          rintro en w7 ⟨hfr, he, hit⟩
          simp only [itOn] at he
          subst he
          have HZ7 := hide (HZ.out.go hfr hit)
          have HNy := hide (next_any _ _ Z _ l' .done w7 HZ7.out.it HZ7.out.lv HOk.out)
          clear hfr hit HNx HZ
          go_wp2_with (fail)
          refine HNy.out.mono ?_
          rintro en w8 ⟨hfr, he, hit⟩
          simp only [nxS, itOn] at he
          subst he
          have HZ8 := hide (HZ7.out.go hfr hit)
          clear hfr hit HNy
          go_wp2_with (fail)
          go_ret
          exact ⟨by simp, HZ8.out.fr⟩
end Go.Proofs.Ythlbfnoahdjdeaa
