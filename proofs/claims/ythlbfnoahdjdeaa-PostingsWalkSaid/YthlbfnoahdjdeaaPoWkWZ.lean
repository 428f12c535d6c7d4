/- PostingsWalk, walked. -/
import Derived.Test.YthlbfnoahdjdeaaK21
namespace Go.Proofs.Ythlbfnoahdjdeaa
set_option linter.unusedVariables false
set_option linter.unusedSimpArgs false
open Go.RowKit

theorem ItM.lower {w : World} {base b2 X : Nat} {lv : Value} {l : List Po} {s : ItS} (h : ItM w base X lv l s) (hb : b2 ≤ base) : ItM w b2 X lv l s := by
  obtain ⟨pv, ps, q, hp, hm⟩ := h.ex
  exact ⟨⟨pv, ps, q, hp.lower hb, hm⟩, Nat.le_trans hb h.lo, h.ok⟩

set_option maxRecDepth 100000 in
set_option maxHeartbeats 8000000 in
theorem powalk_any (A0 A1 : Option Addr) (n0 c0 n1 c1 : Nat) (l : List Po) (ms : List Mv) (w : World)
    (h0 : l.length = n0) (x0 : n0 ≤ c0) (y0 : c0 ≤ maxLen) (z0 : n0 * 32 ≤ 140737488351232) (r0 : RdPo w w.heap.size A0 l) (i0 : InI2 l) (s0 : ∀ e ∈ l, (e.2.length + 1) * 8 ≤ 140737488355328)
    (h1 : ms.length = n1) (x1 : n1 ≤ c1) (y1 : c1 ≤ maxLen) (r1 : MvM w w.heap.size A1 ms) :
    Calls Try.prog 4 #[.slice A0 n0 c0, .slice A1 n1 c1] w (RetB true w) := by
  have HL := hide h0
  have HL1 := hide h1
  have HR1 := hide r1
  have HPn := hide (plainPo_any A0 n0 c0 w.heap.size l w h0 x0 y0 (by omega) (Nat.le_refl _) r0)
  have HS := hide (show ∀ x ∈ l, x.2.length ≤ 140737488351232 from fun x hx => by have := s0 x hx; omega)
  unfold maxLen at y0 y1
  clear r0 h0 i0 s0 z0 r1 h1
  go_enter Try.func4, Try.ntmps4
  go_wp2_with (fail)
  refine HPn.out.mono ?_
  rintro en w1 ⟨A, c, rfl, j1, j2, hrd, hfr⟩
  have HF1 := hide hfr
  have HRp := hide hrd
  have HBr := hide (refBuildP_any A n0 c w1.heap.size l w1 HL.out j1 j2 (Nat.le_refl _) hrd HS.out)
  clear hfr hrd HPn j2
  go_wp2_with (fail)
  refine HBr.out.mono ?_
  rintro en w2 hbp
  obtain ⟨hfr, A6, m, c6, e, b, rfl, hbl, hob, hbd⟩ := rbuildP_bd hbp
  have HF2 := hide (HF1.out.tr hfr)
  have HF12 := hide hfr
  have HO2 := hide hob
  have HBd := hide hbd
  have HBl := hide hbl
  have HC6 := hide hob.le.2
  have hmb : m ≤ 20000000000 := by rw [← hbl]; exact bdP_le hbd
  clear hbp hfr hob hbd hbl HBr
  by_cases g0 : 200 < n0
  · have d1 : decide ((200 : Int) < (n0 : Int)) = true := decide_eq_true (by omega)
    have d1b : decide (200 < n0) = true := decide_eq_true g0
    clear g0
    go_wp2_with (go_at_call 9; refine (awake10_any _).mono ?_; rintro en w4 ⟨rfl, hfr⟩; have HF4 := hide (HF2.out.tr hfr); clear hfr)
    go_ret
    exact ⟨rfl, HF4.out⟩
  have d1 : decide ((200 : Int) < (n0 : Int)) = false := decide_eq_false (by omega)
  have d1b : decide (200 < n0) = false := decide_eq_false (by omega)
  by_cases g1 : 1000 < n1
  · have d2 : decide ((1000 : Int) < (n1 : Int)) = true := decide_eq_true (by omega)
    have d2b : decide (1000 < n1) = true := decide_eq_true g1
    clear g0 g1
    go_wp2_with (go_at_call 9; refine (awake10_any _).mono ?_; rintro en w4 ⟨rfl, hfr⟩; have HF4 := hide (HF2.out.tr hfr); clear hfr)
    go_ret
    exact ⟨rfl, HF4.out⟩
  have d2 : decide ((1000 : Int) < (n1 : Int)) = false := decide_eq_false (by omega)
  have d2b : decide (1000 < n1) = false := decide_eq_false (by omega)
  rcases HBd.out with ⟨rfl, hok, hbs⟩ | ⟨rfl, _, _⟩
  rotate_left
  · clear g0 g1
    go_wp2_with (go_at_call 9; refine (awake10_any _).mono ?_; rintro en w4 ⟨rfl, hfr⟩; have HF4 := hide (HF2.out.tr hfr); clear hfr)
    go_ret
    exact ⟨rfl, HF4.out⟩
  have HFo : Hid (FormP b l) := hide ⟨hok, hbs.symm⟩
  have HOk := hide hok
  have hn0 : n0 ≤ 200 := by omega
  have hn1 : n1 ≤ 1000 := by omega
  have HOp := hide (popen_any A6 m c6 w2.heap.size b w2 HBl.out HC6.out.1 HC6.out.2 (by omega) (Nat.le_refl _) HO2.out.rd)
  clear hok hbs HBd g0 g1
  go_wp2_with (fail)
  refine HOp.out.mono ?_
  rintro en w3 ⟨hfr, (⟨G, l', hf, rfl, hl⟩ | ⟨hno, _⟩)⟩
  rotate_left
  · exact absurd HFo.out (hno _)
  obtain rfl := buildP_inj hf HFo.out
  have HF3 := hide (HF2.out.tr hfr)
  have HR3 := hide (HRp.out.fr0 (HF12.out.tr hfr))
  have HS3 := hide (Nat.le_trans HF12.out.size hfr.size)
  have HL3 := hide hl
  obtain ⟨nl, hnl⟩ : ∃ nl, l'.length = nl := ⟨_, rfl⟩
  clear hfr hf hl HOp hnl HO2 HRp
  go_wp2_with (fail)
  refine (newIt_any (.pointer (some ⟨G, 0, none⟩)) ⟨_, rfl⟩ l' w3).mono ?_
  rintro en w4 ⟨X0, rfl, hit, hfr⟩
  have HIx := hide hit
  have HF4 := hide hfr
  clear hit hfr
  go_wp2_with (fail)
  refine (newIt_any (.pointer (some ⟨G, 0, none⟩)) ⟨_, rfl⟩ l' w4).mono ?_
  rintro en w5 ⟨X1, rfl, hit, hfr⟩
  have HIy := hide hit
  have HF5 := hide hfr
  clear hit hfr
  go_upto_region 8 with (fail)
  obtain ⟨X, hX⟩ : ∃ X, X = pick2 X0 X1 := ⟨_, rfl⟩
  obtain ⟨Y, hY⟩ : ∃ Y, Y = pick2 (w5.heap.size + 1) (w5.heap.size + 1 + 1) := ⟨_, rfl⟩
  obtain ⟨P, hP⟩ : ∃ P, P = w5.heap.size := ⟨_, rfl⟩
  obtain ⟨R, hR⟩ : ∃ R, R = w5.heap.size + 1 + 1 + 1 := ⟨_, rfl⟩
  obtain ⟨w6, hw6⟩ : ∃ W, W = (((w5.alloc (.cells #[.pointer (some ⟨X0, 0, none⟩), .pointer (some ⟨X1, 0, none⟩)] 42)).alloc (.cells #[.slice A n0 c, .int .i64 (-1)] 47)).alloc (.cells #[.slice A n0 c, .int .i64 (-1)] 47)).alloc (.cells #[.pointer (some ⟨w5.heap.size + 1, 0, none⟩), .pointer (some ⟨w5.heap.size + 1 + 1, 0, none⟩)] 45) := ⟨_, rfl⟩
  have HM6 : Hid (FourM w w6 w3.heap.size w2.heap.size w1.heap.size X Y P R A n0 c (.pointer (some ⟨G, 0, none⟩)) l' (fun _ => .start) (fun _ => .start)) := hide (by
    obtain ⟨wa, hwa⟩ : ∃ W, W = w5.alloc (.cells #[.pointer (some ⟨X0, 0, none⟩), .pointer (some ⟨X1, 0, none⟩)] 42) := ⟨_, rfl⟩
    obtain ⟨wb, hwb⟩ : ∃ W, W = wa.alloc (.cells #[.slice A n0 c, .int .i64 (-1)] 47) := ⟨_, rfl⟩
    obtain ⟨wc, hwc⟩ : ∃ W, W = wb.alloc (.cells #[.slice A n0 c, .int .i64 (-1)] 47) := ⟨_, rfl⟩
    rw [← hwa, ← hwb, ← hwc] at hw6
    have za : wa.heap.size = w5.heap.size + 1 := by rw [hwa]; simp
    have zb : wb.heap.size = w5.heap.size + 1 + 1 := by rw [hwb]; simp [za]
    have zc : wc.heap.size = w5.heap.size + 1 + 1 + 1 := by rw [hwc]; simp [zb]
    have fa : Fr No w5 wa := by rw [hwa]; exact (Fr.refl No w5).alloc _
    have fb : Fr No wa wb := by rw [hwb]; exact (Fr.refl No wa).alloc _
    have fc : Fr No wb wc := by rw [hwc]; exact (Fr.refl No wb).alloc _
    have fd : Fr No wc w6 := by rw [hw6]; exact (Fr.refl No wc).alloc _
    have f56 : Fr No w5 w6 := fa.tr (fb.tr (fc.tr fd))
    have qa : wa.heap[w5.heap.size]? = some (.cells #[.pointer (some ⟨X0, 0, none⟩), .pointer (some ⟨X1, 0, none⟩)] 42 (0, 0)) := by rw [hwa]; exact heap_alloc_new w5 _
    have qb : wb.heap[w5.heap.size + 1]? = some (.cells #[.slice A n0 c, .int .i64 (-1)] 47 (0, 0)) := by rw [hwb, ← za]; exact heap_alloc_new wa _
    have qc : wc.heap[w5.heap.size + 1 + 1]? = some (.cells #[.slice A n0 c, .int .i64 (-1)] 47 (0, 0)) := by rw [hwc, ← zb]; exact heap_alloc_new wb _
    have qd : w6.heap[w5.heap.size + 1 + 1 + 1]? = some (.cells #[.pointer (some ⟨w5.heap.size + 1, 0, none⟩), .pointer (some ⟨w5.heap.size + 1 + 1, 0, none⟩)] 45 (0, 0)) := by rw [hw6, ← zc]; exact heap_alloc_new wc _
    have s12 := HS3.out
    have s34 := HF4.out.size
    have s45 := HF5.out.size
    have sw1 := HF1.out.size
    obtain ⟨cs, hXr⟩ := HIx.out.row
    have hXl := (Array.getElem?_eq_some_iff.1 hXr).1
    have lx0 := HIx.out.lo
    have lx1 := HIy.out.lo
    have hr6 := ((HR3.out.fr0 HF4.out).fr0 HF5.out).fr0 f56
    subst hX hY hP hR
    refine ⟨fun i hi => ?_, fun i hi => ?_, .inr ⟨G, _, rfl, ((HL3.out.fr0 HF4.out).fr0 HF5.out).fr0 f56⟩, ((HF3.out.tr HF4.out).tr HF5.out).tr f56, fun i hi => ?_, fun i hi => ?_, ?_, ?_, fun i hi => ?_, (fb.tr (fc.tr fd)).blk qa (fun h => h), qd⟩
    · rcases i with _ | _ | i
      · exact (HIx.out.fr0 HF5.out).fr0 f56
      · exact (HIy.out.fr0 f56).lower s34
      · omega
    · rcases i with _ | _ | i
      · exact ⟨(fc.tr fd).blk qb (fun h => h), HL.out, hr6, (show w1.heap.size ≤ w5.heap.size + 1 by omega), fun i h => by cases h⟩
      · exact ⟨fd.blk qc (fun h => h), HL.out, hr6, (show w1.heap.size ≤ w5.heap.size + 1 + 1 by omega), fun i h => by cases h⟩
      · omega
    · rcases i with _ | _ | i
      · exact Nat.le_trans HF3.out.size lx0
      · exact Nat.le_trans (HF3.out.tr HF4.out).size lx1
      · omega
    · rcases i with _ | _ | i
      · show w.heap.size ≤ w5.heap.size + 1
        omega
      · show w.heap.size ≤ w5.heap.size + 1 + 1
        omega
      · omega
    · show X0 ≠ X1
      omega
    · show w5.heap.size + 1 ≠ w5.heap.size + 1 + 1
      omega
    · rcases i with _ | _ | i
      · show w1.heap.size ≤ X0
        omega
      · show w1.heap.size ≤ X1
        omega
      · omega)
  rw [← hw6]
  rw [← hR, ← hP]
  have kp0 := HM6.out.cellP (g := 0) (by omega)
  have kp1 := HM6.out.cellP (g := 1) (by omega)
  clear hX hY hP hR hw6 HIx HIy HF4 HF5 HL3 HF3 HS3 HF12 HC6
  go_wp2_with (fail)
  clear kp0 kp1
  go_loopw [12] (fun ix wr => ∃ (i : Nat) (s : Nat → ItS), i ≤ n1 ∧ ix = .int .i64 i ∧ Hid (FourM w wr w3.heap.size w2.heap.size w1.heap.size X Y P R A n0 c (.pointer (some ⟨G, 0, none⟩)) l' s s)) (fun ix _ => n1 - (intOf ix).toNat)
  case atStart => exact ⟨0, _, Nat.zero_le _, rfl, HM6⟩
  case round =>
    obtain ⟨wo, rfl⟩ : ∃ wo : World, wo = wr := ⟨_, rfl⟩
    obtain ⟨i, s, hi, rfl, HM⟩ := hrel
    clear HM6
    by_cases hlt : i < n1
    · obtain ⟨ad, rfl, _, m0, m1, m2⟩ := (HR1.out.fr0 HM.out.fr) i (by rw [HL1.out]; exact hlt)
      obtain ⟨⟨who, kind, doc⟩, hmv⟩ : ∃ x, ms.getD i noMv = x := ⟨_, rfl⟩
      rw [hmv] at m0 m1 m2
      dsimp only at m0 m1 m2
      obtain ⟨g, hg, hg2⟩ := and_one who
      have q0 : (0 : Int) ≤ (i : Int) := by omega
      have q1 : (i : Int) < (n1 : Int) := by omega
      clear hmv
      go_upto_region 14 with (fail)
      obtain ⟨wm, hwm⟩ : ∃ W, W = wo.alloc (.cells #[.int .i64 who, .int .i64 kind, .int .i64 doc] 50) := ⟨_, rfl⟩
      obtain ⟨M, hM⟩ : ∃ M, M = wo.heap.size := ⟨_, rfl⟩
      have hmr : wm.heap[M]? = some (.cells #[.int .i64 who, .int .i64 kind, .int .i64 doc] 50 (0, 0)) := by rw [hwm, hM]; exact heap_alloc_new wo _
      have HMm : Hid (FourM w wm w3.heap.size w2.heap.size w1.heap.size X Y P R A n0 c (.pointer (some ⟨G, 0, none⟩)) l' s s) := hide (by rw [hwm]; exact HM.out.fr0 ((Fr.refl No wo).alloc _))
      have HMr := hide hmr
      have cm0 : wm.cell? ⟨M, 0, none⟩ = some (.int .i64 who) := cell_of_row _ _ 0 _ _ _ hmr
      have cm1 : wm.cell? ⟨M, 1, none⟩ = some (.int .i64 kind) := cell_of_row _ _ 1 _ _ _ hmr
      have cm2 : wm.cell? ⟨M, 2, none⟩ = some (.int .i64 doc) := cell_of_row _ _ 2 _ _ _ hmr
      have kP := HMm.out.cellP hg2
      have kR := HMm.out.cellR hg2
      rw [← hwm, ← hM]
      have g0 : (0 : Int) ≤ (g : Int) := by omega
      have g1 : (g : Int) < 2 := by omega
      have HG2 := hide hg2
      clear hwm hM hmr HM m0 m1 m2
      go_upto_region 18 with (fail)
      clear kP kR
      refine wp_named fun K hK => ?_
      obtain ⟨gk, hgk⟩ : ∃ gk, (kind == 0) = gk := ⟨_, rfl⟩
      have HGk := hide hgk
      go_cut [92] from 90 to 92 (fun v wx => v = .bool gk ∧ wx = wm)
      case first =>
        go_wp2_with (fail)
        go_meet
        exact ⟨rfl, rfl⟩
      case rest =>
      obtain ⟨rfl, rfl⟩ := hcut
      obtain ⟨wm, rfl⟩ : ∃ W : World, W = wc := ⟨_, rfl⟩
      refine hK _ _ ?_
      clear hK K hgk
      go_upto_if 92 with (fail)
      refine wp_named fun K hK => ?_
      go_cut [16, 17] from 93 to 104 (fun v16 v17 wx => ∃ (gb : Bool) (v : ItS), v16 = .bool gb ∧ v17 = .bool gb ∧ Hid (FourM w wx w3.heap.size w2.heap.size w1.heap.size X Y P R A n0 c (.pointer (some ⟨G, 0, none⟩)) l' (updS s g v) (updS s g v)))
      case first =>
        cases gk with
        | true =>
          have HNx := hide (next_any _ _ (X g) _ l' (s g) wm (HMm.out.x g hg2) HMm.out.lv HOk.out)
          clear hg hg2
          go_wp2_with (fail)
          refine HNx.out.mono ?_
          rintro en w7 ⟨hfr, he, hit⟩
          obtain ⟨gb, hgb⟩ : ∃ gb, itOn (nxS l' (s g)) = gb := ⟨_, rfl⟩
          rw [hgb] at he
          subst he
          have HM7 := hide (HMm.out.goX HG2.out hfr hit)
          have HRn := hide (rnext_any (Y g) A n0 c _ l' (s g) w7 (HM7.out.y g HG2.out) (by omega))
          have HGb := hide hgb
          clear hfr hit HNx hgb
          go_wp2_with (fail)
          refine HRn.out.mono ?_
          rintro en w8 ⟨hfr, he, hit⟩
          rw [HGb.out] at he
          subst he
          have HM8 := hide (HM7.out.goY HG2.out hfr hit)
          clear hfr hit HRn
          go_wp2_with (fail)
          go_meet
          exact ⟨gb, nxS l' (s g), rfl, rfl, HM8⟩
        | false =>
          have HAd := hide (adv_any _ _ (X g) _ l' (s g) doc wm (HMm.out.x g hg2) HMm.out.lv HOk.out)
          clear hg hg2
          go_wp2_with (fail)
          refine HAd.out.mono ?_
          rintro en w7 ⟨hfr, k, hk, he, hit⟩
          obtain ⟨gb, hgb⟩ : ∃ gb, decide (k < l'.length) = gb := ⟨_, rfl⟩
          rw [hgb] at he
          subst he
          have HM7 := hide (HMm.out.goX HG2.out hfr hit)
          have cm27 : w7.cell? ⟨M, 2, none⟩ = some (.int .i64 doc) := hfr.cell cm2 (fun e => by
            have e : M = X g := e
            obtain ⟨cs, hq⟩ := (HMm.out.x g HG2.out).row
            have h9 := HMr.out
            rw [e, hq] at h9
            injection h9 with h9
            injection h9 with _ h9 _
            revert h9
            decide)
          have HRn := hide (radv_any (Y g) A n0 c _ l' (s g) doc w7 (HM7.out.y g HG2.out) (by omega))
          have HGb := hide hgb
          have HKk := hide hk
          clear hfr hit HAd hgb hk cm0 cm1 cm2
          go_wp2_with (fail)
          refine HRn.out.mono ?_
          rintro en w8 ⟨hfr, k2, hk2, he, hit⟩
          have hkk := hk2.uniq HKk.out
          subst hkk
          rw [← HL.out, HGb.out] at he
          subst he
          have HM8 := hide (HM7.out.goY HG2.out hfr hit)
          clear hfr hit HRn hk2
          go_wp2_with (fail)
          go_meet
          exact ⟨gb, stS l' k2, rfl, rfl, HM8⟩
      case rest =>
      obtain ⟨gb, v, rfl, rfl, HM8⟩ := hcut
      obtain ⟨w8, rfl⟩ : ∃ W : World, W = wc := ⟨_, rfl⟩
      refine hK _ _ ?_
      have hv : updS s g v g = v := if_pos rfl
      have hx8 := HM8.out.x g HG2.out
      have hy8 := HM8.out.y g HG2.out
      rw [hv] at hx8 hy8
      have HX8 := hide hx8
      have HY8 := hide hy8
      have HPl := hide (posn_le HOk.out v)
      have HPx := hide (itPos_any _ (X g) _ l' v w8 hx8 HOk.out)
      obtain ⟨xs, hxs⟩ : ∃ xs, posnS l' v = xs := ⟨_, rfl⟩
      obtain ⟨pn, hpn⟩ : ∃ z, xs.length = z := ⟨_, rfl⟩
      have HPy := hide (fun W (f : Fr No w8 W) => rpos_any (Y g) A n0 c _ l' v W (hy8.fr0 f))
      have HDx := hide (fun W (f : Fr No w8 W) => itDoc_any _ (X g) _ l' v W (hx8.fr0 f))
      have HDy := hide (fun W (f : Fr No w8 W) => rdoc_any (Y g) A n0 c _ l' v W (hy8.fr0 f))
      have HFx := hide (fun W (f : Fr No w8 W) => itFreq_any _ (X g) _ l' v W (hx8.fr0 f))
      rw [hxs] at HPx HPy HFx HPl
      rw [hpn] at HFx HPl
      obtain ⟨dv, hdv⟩ : ∃ d, docS l' v = d := ⟨_, rfl⟩
      rw [hdv] at HDx HDy
      have HPn := hide hpn
      have e1 : (gb != gb) = false := by simp
      have e2 : (dv != dv) = false := by simp
      have e3 : ((pn : Int) != (pn : Int)) = false := by simp
      clear hK K hv hx8 hy8 hxs hpn hdv cm0 cm1 cm2 hg hg2 HMm
      go_wp2_with (fail)
      refine HPx.out.mono ?_
      rintro en w9 ⟨vp, rfl, hown, hfr⟩
      rw [HPn.out] at hown
      obtain ⟨Ap, cp, rfl, p1, p2, -⟩ := hown.form
      have HOp := hide hown
      have HF9 := hide hfr
      clear hown hfr HPx
      go_wp2_with (fail)
      refine (HPy.out w9 HF9.out).mono ?_
      rintro en w10 ⟨Aq, qn, cq, rfl, hqn, q2, q3, hqr, nq, hq⟩
      obtain rfl : pn = qn := by rw [← hqn, HPn.out]
      have HF10 : Hid (Fr No w8 w10) := hide (by rw [hq]; exact HF9.out.drewN nq)
      have HF910 : Hid (Fr No w9 w10) := hide (by rw [hq]; exact (Fr.refl No w9).drewN nq)
      have HQr := hide hqr
      clear hqn hqr hq HPy HF9
      go_wp2_with (fail)
      refine (HDx.out w10 HF10.out).mono ?_
      rintro en w11 ⟨rfl, nq1, hq⟩
      have HF11 : Hid (Fr No w10 w11) := hide (by rw [hq]; exact (Fr.refl No w10).drewN nq1)
      clear hq
      go_wp2_with (fail)
      refine (HDy.out w11 (HF10.out.tr HF11.out)).mono ?_
      rintro en w12 ⟨rfl, nq1, hq⟩
      have HF12 : Hid (Fr No w10 w12) := hide (by rw [hq]; exact HF11.out.drewN nq1)
      clear hq HF11
      go_wp2_with (fail)
      refine (HFx.out w12 (HF10.out.tr HF12.out)).mono ?_
      rintro en w13 ⟨rfl, nq1, hq⟩
      have HF13 : Hid (Fr No w10 w13) := hide (by rw [hq]; exact HF12.out.drewN nq1)
      have HKi := hide (sameInt_any Ap Aq pn cp pn cq w13.heap.size w1.heap.size xs xs w13 HPn.out HPn.out p1 p2 q2 q3 ((HOp.out.fr0 HF910.out).fr0 HF13.out).rd (HQr.out.fr0 HF13.out))
      rw [decide_eq_true rfl] at HKi
      clear hq HF12 HFx HDx HDy p1 p2 q2 q3
      go_wp2_with (fail)
      refine HKi.out.mono ?_
      rintro en w14 ⟨rfl, nq1, hq⟩
      have HF14 : Hid (Fr No w8 w14) := hide (by rw [hq]; exact (HF10.out.tr HF13.out).drewN nq1)
      have HO14 : Hid (Own w14 w8.heap.size 3 1 (.slice Ap pn cp) pn (iz .i64 xs)) := hide (by rw [hq]; exact ((HOp.out.fr0 HF910.out).fr0 HF13.out).fr0 ((Fr.refl No w13).drewN nq1))
      have hpb : pn ≤ 1048576 := HPl.out
      clear hq HKi HF13 HF910 HF10 HOp HQr
      go_wp2_with (fail)
      go_loopw [20] (fun kx wr => ∃ (k : Nat) (Z : List Value), k ≤ pn ∧ kx = .int .i64 k ∧ Hid (Own wr w8.heap.size 3 1 (.slice Ap pn cp) pn Z) ∧ Hid (Fr No w8 wr)) (fun kx _ => pn - (intOf kx).toNat)
      case atStart => exact ⟨0, _, Nat.zero_le _, rfl, HO14, HF14⟩
      case round =>
        obtain ⟨wz, rfl⟩ : ∃ wz : World, wz = wr := ⟨_, rfl⟩
        obtain ⟨k, Z, hk, rfl, HOz, HFz⟩ := hrel
        clear HO14 HF14
        by_cases hkl : k < pn
        · obtain ⟨gI, rfl, hgi, _, hcell, hfz, hst⟩ := HOz.out.store (k := k) hkl
          have hlen : k < Z.length := by have := HOz.out.1; omega
          rw [List.getElem?_eq_getElem hlen] at hcell
          generalize Z[k] = zk at hcell
          have HST := hide hst
          have HFn : Hid (∀ v, Fr No w8 (wz.setCell ⟨gI, k, none⟩ v)) := hide (fun v => HFz.out.setCell (p := ⟨gI, k, none⟩) (fun h => by have h : gI < w8.heap.size := h; omega) v)
          have j0 : (0 : Int) ≤ (k : Int) := by omega
          have j1 : (k : Int) < (pn : Int) := by omega
          clear hst hlen
          go_wp2_with (fail)
          go_roundw
          case rel => exact ⟨k + 1, _, by omega, by go_num, hide (HST.out _), hide (HFn.out _)⟩
          case measure => simp [intOf]; omega
        · obtain rfl : k = pn := by omega
          have HMz := hide (HM8.out.fr0 HFz.out)
          clear hkl
          go_wp2_with (fail)
          go_roundw
          case rel => exact ⟨i + 1, updS s g v, by omega, by go_num, HMz⟩
          case measure => simp [intOf]; omega
    · obtain rfl : i = n1 := by omega
      have d9 : decide ((i : Int) < (i : Int)) = false := by simp
      have HDx := hide (fun (W : World) (f : Fr No wo W) (g : Nat) (hg : g < 2) => itDoc_any _ (X g) _ l' (s g) W ((HM.out.x g hg).fr0 f))
      have HDy := hide (fun (W : World) (f : Fr No wo W) (g : Nat) (hg : g < 2) => rdoc_any (Y g) A n0 c _ l' (s g) W ((HM.out.y g hg).fr0 f))
      obtain ⟨u0, hu0⟩ : ∃ u, docS l' (s 0) = u := ⟨_, rfl⟩
      obtain ⟨u1, hu1⟩ : ∃ u, docS l' (s 1) = u := ⟨_, rfl⟩
      have hd0 := fun W f => HDx.out W f 0 (by omega)
      have hd1 := fun W f => HDx.out W f 1 (by omega)
      have he0 := fun W f => HDy.out W f 0 (by omega)
      have he1 := fun W f => HDy.out W f 1 (by omega)
      rw [hu0] at hd0 he0
      rw [hu1] at hd1 he1
      have HD0 := hide hd0
      have HD1 := hide hd1
      have HE0 := hide he0
      have HE1 := hide he1
      have e1 : (u0 == u0) = true := by simp
      have e2 : (u1 == u1) = true := by simp
      have HC := hide (fun (W : World) (f : Fr No wo W) => show W.cell? ⟨P, 0, none⟩ = some (.pointer (some ⟨X 0, 0, none⟩)) ∧ W.cell? ⟨P, 1, none⟩ = some (.pointer (some ⟨X 1, 0, none⟩)) ∧ W.cell? ⟨R, 0, none⟩ = some (.pointer (some ⟨Y 0, 0, none⟩)) ∧ W.cell? ⟨R, 1, none⟩ = some (.pointer (some ⟨Y 1, 0, none⟩)) from ⟨(HM.out.fr0 f).cellP (g := 0) (by omega), (HM.out.fr0 f).cellP (g := 1) (by omega), (HM.out.fr0 f).cellR (g := 0) (by omega), (HM.out.fr0 f).cellR (g := 1) (by omega)⟩)
      have HF10 : Hid (Fr No wo wo.drew) := hide (Fr.refl No wo).drew
      have HK10 := hide (HC.out _ HF10.out)
      clear hd0 hd1 he0 he1 hu0 hu1 hlt
      go_wp2_with (fail)
      go_region_held3 (fun W => W.cell? ⟨P, 0, none⟩ = some (.pointer (some ⟨X 0, 0, none⟩)) ∧ W.cell? ⟨P, 1, none⟩ = some (.pointer (some ⟨X 1, 0, none⟩)) ∧ W.cell? ⟨R, 0, none⟩ = some (.pointer (some ⟨Y 0, 0, none⟩)) ∧ W.cell? ⟨R, 1, none⟩ = some (.pointer (some ⟨Y 1, 0, none⟩))) (first | with_reducible exact HK10.out | with_reducible exact HK11.out | with_reducible exact HK12.out | with_reducible exact HK13.out | with_reducible exact HK14.out | with_reducible exact HK15.out) (first
        | (go_at_call 9; refine (awake10_any _).mono ?_; rintro en w15 ⟨rfl, hfr⟩; have HF15 := hide (HF14.out.tr hfr); have HK15 := hide (HC.out _ HF15.out); clear hfr)
        | (go_at_call 26; refine (HE1.out w13 HF13.out).mono ?_; rintro en w14 ⟨rfl, nq14, hq⟩; have HF14 : Hid (Fr No wo w14) := hide (by rw [hq]; exact HF13.out.drewN nq14); have HK14 := hide (HC.out _ HF14.out); clear hq)
        | (go_at_call 25; refine (HD1.out w12 HF12.out).mono ?_; rintro en w13 ⟨rfl, nq13, hq⟩; have HF13 : Hid (Fr No wo w13) := hide (by rw [hq]; exact HF12.out.drewN nq13); have HK13 := hide (HC.out _ HF13.out); clear hq)
        | (go_at_call 26; refine (HE0.out w11 HF11.out).mono ?_; rintro en w12 ⟨rfl, nq12, hq⟩; have HF12 : Hid (Fr No wo w12) := hide (by rw [hq]; exact HF11.out.drewN nq12); have HK12 := hide (HC.out _ HF12.out); clear hq)
        | (go_at_call 25; refine (HD0.out wo.drew HF10.out).mono ?_; rintro en w11 ⟨rfl, nq11, hq⟩; have HF11 : Hid (Fr No wo w11) := hide (by rw [hq]; exact HF10.out.drewN nq11); have HK11 := hide (HC.out _ HF11.out); clear hq))
      go_wp2_with (fail)
      go_ret
      exact ⟨by simp, HM.out.fr.tr HF15.out⟩
end Go.Proofs.Ythlbfnoahdjdeaa
