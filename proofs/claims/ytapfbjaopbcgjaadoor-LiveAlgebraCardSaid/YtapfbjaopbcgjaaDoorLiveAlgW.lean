/- The walk of LiveAlgebra: it answers true; nothing that was there has changed. Condition: the library's table lies as laid. -/
import Derived.Test.YtapfbjaopbcgjaaDoorListW
import Derived.Test.YtapfbjaopbcgjaaDoorAlgP
import Derived.Test.YtapfbjaopbcgjaaDoorAndW
import Derived.Test.YtapfbjaopbcgjaaDoorReadW
namespace Go.Proofs.YtapfbjaopbcgjaaDoor
set_option linter.unusedVariables false
set_option linter.unusedSimpArgs false
open Go.RowKit

set_option maxRecDepth 100000 in
set_option maxHeartbeats 2000000 in
theorem liveAlgebra_any (n : Int) (A1 A2 : Option Addr) (m1 c1 m2 c2 : Nat) (l1 l2 : List Int) (w : World) (hT : Tab w) (hn1 : -9223372036854775808 ≤ n) (hn2 : n ≤ 9223372036854775807) (h1 : l1.length = m1) (h2 : l2.length = m2) (q1 : m1 ≤ c1) (q2 : c1 ≤ maxLen) (q3 : m2 ≤ c2) (q4 : c2 ≤ maxLen) (hr1 : Rd w w.heap.size A1 (iz .i64 l1)) (hr2 : Rd w w.heap.size A2 (iz .i64 l2)) :
    Calls Tryd.prog 8 #[.int .i64 n, .slice A1 m1 c1, .slice A2 m2 c2] w (RetB true w) := by
  have HAw := hide (fun W (f : Fr No w W) => awake14_any W (hT.fr0 f))
  have HT := hide hT
  have HLa := hide (list_any n A1 m1 c1 w.heap.size l1 w hn1 hn2 h1 q1 q2 (Nat.le_refl _) hr1)
  have HLb := hide (fun W (f : Fr No w W) => list_any n A2 m2 c2 w.heap.size l2 W hn1 hn2 h2 q3 q4 f.size (hr2.fr0 f))
  have hN := clampN_le n
  have hX := ofL_len (clampN n) (l1.take 500)
  have hY := ofL_len (clampN n) (l2.take 500)
  generalize ofL (clampN n) (l1.take 500) = X at HLa hX
  generalize ofL (clampN n) (l2.take 500) = Y at HLb hY
  generalize clampN n = N at hN hX hY
  have HX := hide hX
  have HY := hide hY
  have HX16 : Hid (X.length ≤ 16384) := hide (by omega)
  have HY16 : Hid (Y.length ≤ 16384) := hide (by omega)
  clear hT hr1 hr2 h1 h2 hX hY
  go_enter Tryd.func8, Tryd.ntmps8
  go_wp2_with (fail)
  refine HLa.out.mono ?_
  rintro en w1 ⟨gx, wx, rfl, hbt, hfr⟩
  have F1 := hide hfr
  have X1 := hide hbt
  clear hfr hbt HLa
  go_wp2_with (fail)
  refine (HLb.out w1 F1.out).mono ?_
  rintro en w2 ⟨gy, wy, rfl, hbt, hfr⟩
  have F2 := hide (F1.out.tr hfr)
  have X2 := hide (X1.out.fr0 hfr)
  have Y2 := hide hbt
  clear hfr hbt HLb
  go_wp2_with (fail)
  refine (and_any (.inr ⟨gx, wx, rfl, X2.out⟩) (.inr ⟨gy, wy, rfl, Y2.out⟩) HX16.out HY16.out).mono ?_
  rintro en w3 ⟨ga, wa, rfl, hbt, hfr⟩
  have F3 := hide (F2.out.tr hfr)
  have X3 := hide (X2.out.fr0 hfr)
  have Y3 := hide (Y2.out.fr0 hfr)
  have A3 := hide hbt
  clear hfr hbt
  go_wp2_with (fail)
  refine (or_any (.inr ⟨gx, wx, rfl, X3.out⟩) (.inr ⟨gy, wy, rfl, Y3.out⟩) HX16.out HY16.out).mono ?_
  rintro en w4 ⟨go, wo, rfl, hbt, hfr⟩
  have F4 := hide (F3.out.tr hfr)
  have X4 := hide (X3.out.fr0 hfr)
  have Y4 := hide (Y3.out.fr0 hfr)
  have A4 := hide (A3.out.fr0 hfr)
  have O4 := hide hbt
  clear hfr hbt
  go_wp2_with (fail)
  refine (minus_any (.inr ⟨gx, wx, rfl, X4.out⟩) (.inr ⟨gy, wy, rfl, Y4.out⟩) HX16.out HY16.out).mono ?_
  rintro en w5 ⟨gm, wm, rfl, hbt, hfr⟩
  have F5 := hide (F4.out.tr hfr)
  have X5 := hide (X4.out.fr0 hfr)
  have Y5 := hide (Y4.out.fr0 hfr)
  have A5 := hide (A4.out.fr0 hfr)
  have O5 := hide (O4.out.fr0 hfr)
  have M5 := hide hbt
  clear hfr hbt X1 X2 Y2 X3 Y3 A3 X4 Y4 A4 O4 F1 F2 F3 F4
  have VX := hide (show BV w5 _ (.pointer (some ⟨gx, 0, none⟩)) X from .inr ⟨gx, wx, rfl, X5.out⟩)
  have VY := hide (show BV w5 _ (.pointer (some ⟨gy, 0, none⟩)) Y from .inr ⟨gy, wy, rfl, Y5.out⟩)
  have VA := hide (show BV w5 _ (.pointer (some ⟨ga, 0, none⟩)) (joinL (fun p q => p && q) X Y) from .inr ⟨ga, wa, rfl, A5.out⟩)
  have VO := hide (show BV w5 _ (.pointer (some ⟨go, 0, none⟩)) (joinL (fun p q => p || q) X Y) from .inr ⟨go, wo, rfl, O5.out⟩)
  have VM := hide (show BV w5 _ (.pointer (some ⟨gm, 0, none⟩)) (joinL (fun p q => p && !q) X Y) from .inr ⟨gm, wm, rfl, M5.out⟩)
  have CX := hide (fun W (f : Fr No w5 W) => count_any _ _ X W (VX.out.fr0 f))
  have CY := hide (count_any _ _ Y w5 VY.out)
  have CA := hide (count_any _ _ _ w5 VA.out)
  have CO := hide (count_any _ _ _ w5 VO.out)
  have CM := hide (count_any _ _ _ w5 VM.out)
  have e1 := count_and_or (a := X) (b := Y) (by rw [HX.out, HY.out])
  have e2 := count_minus X Y
  have k1 : countL X ≤ 16384 := Nat.le_trans (cntN_le _ _) HX16.out
  have k2 : countL Y ≤ 16384 := Nat.le_trans (cntN_le _ _) HY16.out
  obtain ⟨cx, hcx⟩ : ∃ cx, countL X = cx := ⟨_, rfl⟩
  have HCX := hide hcx
  rw [hcx] at CX e1 e2 k1
  clear hcx
  generalize countL Y = cy at CY e1 k2
  generalize countL (joinL (fun p q => p && q) X Y) = ca at CA e1 e2
  generalize countL (joinL (fun p q => p || q) X Y) = co at CO e1
  generalize countL (joinL (fun p q => p && !q) X Y) = cm at CM e2
  have hb1 : ((cx : Int) + (cy : Int) != (ca : Int) + (co : Int)) = false := by simp; omega
  have hb2 : ((cm : Int) != (cx : Int) - (ca : Int)) = false := by simp; omega
  have kco : co ≤ 32768 := by omega
  have kca : ca ≤ 16384 := by omega
  have kcm : cm ≤ 16384 := by omega
  clear e1 e2
  go_wp2_with (fail)
  refine (CX.out w5 (Fr.refl _ _)).mono ?_
  rintro en wv ⟨rfl, rfl⟩
  go_wp2_with (fail)
  refine CY.out.mono ?_
  rintro en wv ⟨rfl, rfl⟩
  go_wp2_with (fail)
  refine CA.out.mono ?_
  rintro en wv ⟨rfl, rfl⟩
  go_wp2_with (fail)
  refine CO.out.mono ?_
  rintro en wv ⟨rfl, rfl⟩
  go_wp2_with (fail)
  refine CM.out.mono ?_
  rintro en wv ⟨rfl, rfl⟩
  go_wp2_with (fail)
  refine (CX.out w5 (Fr.refl _ _)).mono ?_
  rintro en wv ⟨rfl, rfl⟩
  go_wp2_with (fail)
  refine CA.out.mono ?_
  rintro en wv ⟨rfl, rfl⟩
  go_wp2_with (fail)
  have LX := hide (len_any _ _ X w5 VX.out)
  rw [HX.out] at LX
  have GX := hide (fun i => has_any _ _ X i w5 VX.out)
  have GY := hide (fun i => has_any _ _ Y i w5 VY.out)
  have GA := hide (fun i => has_any _ _ _ i w5 VA.out)
  have GO := hide (fun i => has_any _ _ _ i w5 VO.out)
  have GM := hide (fun i => has_any _ _ _ i w5 VM.out)
  clear CY CA CO CM hb1 hb2 kco kca kcm k2 VY
  have HBX0 := hide (fun W (f : Fr No w5 W) => bytesL_any _ _ X W (VX.out.fr0 f) ((HT.out.fr0 F5.out).fr0 f) HX16.out)
  have HBv := hide (fun B g W (h : BV W B (.pointer (some g)) X) (f : Fr No w W) => bytesL_any B _ X W h (HT.out.fr0 f) HX16.out)
  obtain ⟨bs, hbs⟩ : ∃ bs, bs = enc X.length ++ setB X := ⟨_, rfl⟩
  rw [← hbs] at HBX0 HBv
  have HRB : Hid (readsB bs) := hide (by rw [hbs]; exact setE_reads HX16.out)
  have HRL : Hid (readL bs = X) := hide (by rw [hbs]; exact setE_back HX16.out)
  have hbl : bs.length ≤ 3000 := by
    rw [hbs, List.length_append]
    have := (enc_len X.length).2
    have h3 := setB_len X
    have h4 := HX16.out
    rw [h3]
    omega
  clear hbs
  obtain ⟨q, hq⟩ : ∃ q, bs.length = q := ⟨_, rfl⟩
  rw [hq] at hbl
  have HQ := hide hq
  clear hq
  have HE := hide (fun W (f : Fr No w5 W) => each_big _ _ X W (VX.out.fr0 f) ((HT.out.fr0 F5.out).fr0 f) HX16.out)
  have hcc : ((cx : Int) == (cx : Int)) = true := by simp
  go_loop [12, 13, 14] (fun i p q => ∃ k : Nat, k ≤ N ∧ k ≤ 300 ∧ i = .int .i64 k) (fun i _ _ => N - (intOf i).toNat)
  case atStart => exact ⟨0, by omega, by omega, rfl⟩
  case round =>
    obtain ⟨k, hk, hk3, rfl⟩ := hrel
    by_cases hlt : k < N
    · by_cases h3 : k < 300
      · have JX := hide (GX.out (k : Nat))
        have JY := hide (GY.out (k : Nat))
        have JA := hide (GA.out (k : Nat))
        have JO := hide (GO.out (k : Nat))
        have JM := hide (GM.out (k : Nat))
        rw [hasI_joinL _ _ _ (by rw [HX.out]; exact hlt)] at JA JO JM
        generalize hasI X (k : Nat) = p at JX JA JO JM
        generalize hasI Y (k : Nat) = q at JY JA JO JM
        clear GX GY GA GO GM X5 Y5 A5 O5 M5 VX VA VO VM CX HAw HBX0 HBv HE
        cases p <;> cases q
        all_goals
          go_wp2_with (fail)
          refine LX.out.mono ?_
          rintro en wv ⟨rfl, rfl⟩
          go_wp2_with (fail)
          refine JX.out.mono ?_
          rintro en wv ⟨rfl, rfl⟩
          go_wp2_with (fail)
          refine JY.out.mono ?_
          rintro en wv ⟨rfl, rfl⟩
          go_wp2_with (fail)
          refine JA.out.mono ?_
          rintro en wv ⟨rfl, rfl⟩
          go_wp2_with (fail)
          refine JO.out.mono ?_
          rintro en wv ⟨rfl, rfl⟩
          go_wp2_with (fail)
          refine JM.out.mono ?_
          rintro en wv ⟨rfl, rfl⟩
          go_wp2_with (fail)
          go_round
          case rel => exact ⟨k + 1, by omega, by omega, by go_num⟩
          case measure => simp [intOf]; omega
      · clear GX GY GA GO GM
        go_wp2_with (fail)
        refine LX.out.mono ?_
        rintro en wv ⟨rfl, rfl⟩
        go_wp2_with (fail)
        refine (HBX0.out w5 (Fr.refl _ _)).mono ?_
        rintro en w6 ⟨v6, rfl, hown, hfr⟩
        rw [HQ.out] at hown
        have O6 := hide hown
        have f6 := hide hfr
        obtain ⟨A6, c6, rfl, p1, p2, _⟩ := hown.form
        clear hown hfr
        go_wp2_with (fail)
        refine (read_any A6 q c6 w6.heap.size bs w6 HQ.out p1 p2 (by omega) (Nat.le_refl _) O6.out.rd).mono ?_
        rintro en w7 ⟨v, e, rfl, hv, hfr⟩
        obtain ⟨gz, gwz, rfl, Z7, rfl⟩ : ∃ g gw, v = .pointer (some ⟨g, 0, none⟩) ∧ Hid (BT w7 w6.heap.size g gw X) ∧ e = 0 := by
          rcases hv with ⟨h, _⟩ | ⟨_, he, g, gw, hv, hb⟩
          · exact absurd HRB.out h
          · rw [HRL.out] at hb
            exact ⟨g, gw, hv, hide hb, he⟩
        have f7 := hide (f6.out.tr hfr)
        clear hfr hv O6 p1 p2
        have X7 := hide (X5.out.fr0 f7.out)
        go_wp2_with (fail)
        refine (copy_any (.inr ⟨gx, wx, rfl, X7.out⟩) HX16.out).mono ?_
        rintro en w8 ⟨gc, wc, rfl, hbt, hfr⟩
        have C8 := hide hbt
        have f78 := hide hfr
        clear hfr hbt
        go_wp2_with (fail)
        refine (clr_any _ gc wc X 0 w8 C8.out).mono ?_
        rintro en w9 ⟨⟨v9, rfl⟩, hbt, hfr⟩
        have C9 := hide hbt
        have f79 := hide (f78.out.own1 hfr C8.out.lt.2.2.1)
        clear hfr hbt
        go_wp2_with (fail)
        refine (set_any _ gc wc _ 1 w9 C9.out).mono ?_
        rintro en w10 ⟨⟨v10, rfl⟩, hbt, hfr⟩
        have f710 := hide (f79.out.own1 hfr C8.out.lt.2.2.1)
        have f510 := hide (f7.out.tr f710.out)
        have Z10 := hide (Z7.out.fr0 f710.out)
        clear hfr hbt C8 C9 f78 f79 f6 f7 X7
        go_wp2_with (fail)
        refine (HBv.out _ _ w10 (.inr ⟨gz, gwz, rfl, Z10.out⟩) (F5.out.tr f510.out)).mono ?_
        rintro en w11 ⟨v, rfl, hown, hfr⟩
        rw [HQ.out] at hown
        have O11 := hide hown
        have fa := hide hfr
        have f511 := hide (f510.out.tr hfr)
        obtain ⟨A11, c11, rfl, p1, p2, _⟩ := hown.form
        clear hown hfr
        go_wp2_with (fail)
        refine (HBX0.out w11 f511.out).mono ?_
        rintro en w12 ⟨v, rfl, hown, hfr⟩
        rw [HQ.out] at hown
        have O12 := hide hown
        have OO := hide (O11.out.fr0 hfr)
        have fb := hide (fa.out.tr hfr)
        have f512 := hide (f511.out.tr hfr)
        obtain ⟨A12, c12, rfl, p3, p4, _⟩ := hown.form
        clear hown hfr
        go_wp2_with (fail)
        refine (bytes_yes A11 A12 q c11 c12 bs w12 HQ.out p1 p2 p3 p4 OO.out.rd O12.out.rd).mono ?_
        rintro en w13 ⟨rfl, hfr⟩
        have f513 := hide (f512.out.tr hfr)
        have fc := hide (fb.out.tr hfr)
        clear hfr fa fb O11 O12 OO f511 f512 p1 p2 p3 p4
        have Z13 := hide (Z10.out.fr0 fc.out)
        clear fc
        go_wp2_with (fail)
        refine (HE.out w13 f513.out).mono ?_
        rintro en w14 ⟨v, rfl, hown, hfr⟩
        rw [← held_count, HCX.out] at hown
        have f514 := hide (f513.out.tr hfr)
        have Z14 := hide (Z13.out.fr0 hfr)
        obtain ⟨A14, c14, rfl, p1, p2, _⟩ := hown.form
        unfold maxLen at p2
        clear hown hfr Z13 Z10
        go_wp2_with (fail)
        refine (CX.out w14 f514.out).mono ?_
        rintro en wv ⟨rfl, rfl⟩
        go_wp2_with (fail)
        refine (or_any (VM.out.fr0 f514.out) (VA.out.fr0 f514.out) (by rw [joinL_len]; exact HX16.out) (by rw [joinL_len]; exact HX16.out)).mono ?_
        rw [minus_or_and]
        rintro en w15 ⟨gr, wr2, rfl, hbt, hfr⟩
        have f515 := hide (f514.out.tr hfr)
        have Z15 := hide (Z14.out.fr0 hfr)
        have R15 := hide hbt
        clear hbt hfr p1 p2
        go_wp2_with (fail)
        refine (HBv.out _ _ w15 (.inr ⟨gr, wr2, rfl, R15.out⟩) (F5.out.tr f515.out)).mono ?_
        rintro en w16 ⟨v, rfl, hown, hfr⟩
        rw [HQ.out] at hown
        have O16 := hide hown
        have fa := hide hfr
        have f516 := hide (f515.out.tr hfr)
        obtain ⟨A16, c16, rfl, p1, p2, _⟩ := hown.form
        clear hown hfr
        go_wp2_with (fail)
        refine (HBX0.out w16 f516.out).mono ?_
        rintro en w17 ⟨v, rfl, hown, hfr⟩
        rw [HQ.out] at hown
        have O17 := hide hown
        have OO := hide (O16.out.fr0 hfr)
        have fb := hide (fa.out.tr hfr)
        have f517 := hide (f516.out.tr hfr)
        obtain ⟨A17, c17, rfl, p3, p4, _⟩ := hown.form
        clear hown hfr
        go_wp2_with (fail)
        refine (bytes_yes A16 A17 q c16 c17 bs w17 HQ.out p1 p2 p3 p4 OO.out.rd O17.out.rd).mono ?_
        rintro en w18 ⟨rfl, hfr⟩
        have f518 := hide (f517.out.tr hfr)
        have fc := hide (fb.out.tr hfr)
        clear hfr fa fb O16 O17 OO f516 f517 p1 p2 p3 p4
        have Z18 := hide (Z15.out.fr0 fc.out)
        clear fc
        go_wp2_with (fail)
        refine (HBv.out _ _ w18 (.inr ⟨gz, gwz, rfl, Z18.out⟩) (F5.out.tr f518.out)).mono ?_
        rintro en w19 ⟨v, rfl, hown, hfr⟩
        rw [HQ.out] at hown
        have O19 := hide hown
        have fa := hide hfr
        have f519 := hide (f518.out.tr hfr)
        obtain ⟨A19, c19, rfl, p1, p2, _⟩ := hown.form
        clear hown hfr
        go_wp2_with (fail)
        refine (HBX0.out w19 f519.out).mono ?_
        rintro en w20 ⟨v, rfl, hown, hfr⟩
        rw [HQ.out] at hown
        have O20 := hide hown
        have OO := hide (O19.out.fr0 hfr)
        have fb := hide (fa.out.tr hfr)
        have f520 := hide (f519.out.tr hfr)
        obtain ⟨A20, c20, rfl, p3, p4, _⟩ := hown.form
        clear hown hfr
        go_wp2_with (fail)
        refine (bytes_yes A19 A20 q c19 c20 bs w20 HQ.out p1 p2 p3 p4 OO.out.rd O20.out.rd).mono ?_
        rintro en w21 ⟨rfl, hfr⟩
        have f521 := hide (f520.out.tr hfr)
        have fc := hide (fb.out.tr hfr)
        clear hfr fa fb O19 O20 OO f519 f520 p1 p2 p3 p4
        go_wp2_with (fail)
        refine (HAw.out w21 (F5.out.tr f521.out)).mono ?_
        rintro en w22 ⟨rfl, hfr⟩
        have F22 := hide ((F5.out.tr f521.out).tr hfr)
        clear hfr
        go_wp2_with (fail)
        go_ret
        exact ⟨rfl, F22.out⟩
    · clear GX GY GA GO GM
      go_wp2_with (fail)
      refine LX.out.mono ?_
      rintro en wv ⟨rfl, rfl⟩
      go_wp2_with (fail)
      refine (HBX0.out w5 (Fr.refl _ _)).mono ?_
      rintro en w6 ⟨v6, rfl, hown, hfr⟩
      rw [HQ.out] at hown
      have O6 := hide hown
      have f6 := hide hfr
      obtain ⟨A6, c6, rfl, p1, p2, _⟩ := hown.form
      clear hown hfr
      go_wp2_with (fail)
      refine (read_any A6 q c6 w6.heap.size bs w6 HQ.out p1 p2 (by omega) (Nat.le_refl _) O6.out.rd).mono ?_
      rintro en w7 ⟨v, e, rfl, hv, hfr⟩
      obtain ⟨gz, gwz, rfl, Z7, rfl⟩ : ∃ g gw, v = .pointer (some ⟨g, 0, none⟩) ∧ Hid (BT w7 w6.heap.size g gw X) ∧ e = 0 := by
        rcases hv with ⟨h, _⟩ | ⟨_, he, g, gw, hv, hb⟩
        · exact absurd HRB.out h
        · rw [HRL.out] at hb
          exact ⟨g, gw, hv, hide hb, he⟩
      have f7 := hide (f6.out.tr hfr)
      clear hfr hv O6 p1 p2
      have X7 := hide (X5.out.fr0 f7.out)
      go_wp2_with (fail)
      refine (copy_any (.inr ⟨gx, wx, rfl, X7.out⟩) HX16.out).mono ?_
      rintro en w8 ⟨gc, wc, rfl, hbt, hfr⟩
      have C8 := hide hbt
      have f78 := hide hfr
      clear hfr hbt
      go_wp2_with (fail)
      refine (clr_any _ gc wc X 0 w8 C8.out).mono ?_
      rintro en w9 ⟨⟨v9, rfl⟩, hbt, hfr⟩
      have C9 := hide hbt
      have f79 := hide (f78.out.own1 hfr C8.out.lt.2.2.1)
      clear hfr hbt
      go_wp2_with (fail)
      refine (set_any _ gc wc _ 1 w9 C9.out).mono ?_
      rintro en w10 ⟨⟨v10, rfl⟩, hbt, hfr⟩
      have f710 := hide (f79.out.own1 hfr C8.out.lt.2.2.1)
      have f510 := hide (f7.out.tr f710.out)
      have Z10 := hide (Z7.out.fr0 f710.out)
      clear hfr hbt C8 C9 f78 f79 f6 f7 X7
      go_wp2_with (fail)
      refine (HBv.out _ _ w10 (.inr ⟨gz, gwz, rfl, Z10.out⟩) (F5.out.tr f510.out)).mono ?_
      rintro en w11 ⟨v, rfl, hown, hfr⟩
      rw [HQ.out] at hown
      have O11 := hide hown
      have fa := hide hfr
      have f511 := hide (f510.out.tr hfr)
      obtain ⟨A11, c11, rfl, p1, p2, _⟩ := hown.form
      clear hown hfr
      go_wp2_with (fail)
      refine (HBX0.out w11 f511.out).mono ?_
      rintro en w12 ⟨v, rfl, hown, hfr⟩
      rw [HQ.out] at hown
      have O12 := hide hown
      have OO := hide (O11.out.fr0 hfr)
      have fb := hide (fa.out.tr hfr)
      have f512 := hide (f511.out.tr hfr)
      obtain ⟨A12, c12, rfl, p3, p4, _⟩ := hown.form
      clear hown hfr
      go_wp2_with (fail)
      refine (bytes_yes A11 A12 q c11 c12 bs w12 HQ.out p1 p2 p3 p4 OO.out.rd O12.out.rd).mono ?_
      rintro en w13 ⟨rfl, hfr⟩
      have f513 := hide (f512.out.tr hfr)
      have fc := hide (fb.out.tr hfr)
      clear hfr fa fb O11 O12 OO f511 f512 p1 p2 p3 p4
      have Z13 := hide (Z10.out.fr0 fc.out)
      clear fc
      go_wp2_with (fail)
      refine (HE.out w13 f513.out).mono ?_
      rintro en w14 ⟨v, rfl, hown, hfr⟩
      rw [← held_count, HCX.out] at hown
      have f514 := hide (f513.out.tr hfr)
      have Z14 := hide (Z13.out.fr0 hfr)
      obtain ⟨A14, c14, rfl, p1, p2, _⟩ := hown.form
      unfold maxLen at p2
      clear hown hfr Z13 Z10
      go_wp2_with (fail)
      refine (CX.out w14 f514.out).mono ?_
      rintro en wv ⟨rfl, rfl⟩
      go_wp2_with (fail)
      refine (or_any (VM.out.fr0 f514.out) (VA.out.fr0 f514.out) (by rw [joinL_len]; exact HX16.out) (by rw [joinL_len]; exact HX16.out)).mono ?_
      rw [minus_or_and]
      rintro en w15 ⟨gr, wr2, rfl, hbt, hfr⟩
      have f515 := hide (f514.out.tr hfr)
      have Z15 := hide (Z14.out.fr0 hfr)
      have R15 := hide hbt
      clear hbt hfr p1 p2
      go_wp2_with (fail)
      refine (HBv.out _ _ w15 (.inr ⟨gr, wr2, rfl, R15.out⟩) (F5.out.tr f515.out)).mono ?_
      rintro en w16 ⟨v, rfl, hown, hfr⟩
      rw [HQ.out] at hown
      have O16 := hide hown
      have fa := hide hfr
      have f516 := hide (f515.out.tr hfr)
      obtain ⟨A16, c16, rfl, p1, p2, _⟩ := hown.form
      clear hown hfr
      go_wp2_with (fail)
      refine (HBX0.out w16 f516.out).mono ?_
      rintro en w17 ⟨v, rfl, hown, hfr⟩
      rw [HQ.out] at hown
      have O17 := hide hown
      have OO := hide (O16.out.fr0 hfr)
      have fb := hide (fa.out.tr hfr)
      have f517 := hide (f516.out.tr hfr)
      obtain ⟨A17, c17, rfl, p3, p4, _⟩ := hown.form
      clear hown hfr
      go_wp2_with (fail)
      refine (bytes_yes A16 A17 q c16 c17 bs w17 HQ.out p1 p2 p3 p4 OO.out.rd O17.out.rd).mono ?_
      rintro en w18 ⟨rfl, hfr⟩
      have f518 := hide (f517.out.tr hfr)
      have fc := hide (fb.out.tr hfr)
      clear hfr fa fb O16 O17 OO f516 f517 p1 p2 p3 p4
      have Z18 := hide (Z15.out.fr0 fc.out)
      clear fc
      go_wp2_with (fail)
      refine (HBv.out _ _ w18 (.inr ⟨gz, gwz, rfl, Z18.out⟩) (F5.out.tr f518.out)).mono ?_
      rintro en w19 ⟨v, rfl, hown, hfr⟩
      rw [HQ.out] at hown
      have O19 := hide hown
      have fa := hide hfr
      have f519 := hide (f518.out.tr hfr)
      obtain ⟨A19, c19, rfl, p1, p2, _⟩ := hown.form
      clear hown hfr
      go_wp2_with (fail)
      refine (HBX0.out w19 f519.out).mono ?_
      rintro en w20 ⟨v, rfl, hown, hfr⟩
      rw [HQ.out] at hown
      have O20 := hide hown
      have OO := hide (O19.out.fr0 hfr)
      have fb := hide (fa.out.tr hfr)
      have f520 := hide (f519.out.tr hfr)
      obtain ⟨A20, c20, rfl, p3, p4, _⟩ := hown.form
      clear hown hfr
      go_wp2_with (fail)
      refine (bytes_yes A19 A20 q c19 c20 bs w20 HQ.out p1 p2 p3 p4 OO.out.rd O20.out.rd).mono ?_
      rintro en w21 ⟨rfl, hfr⟩
      have f521 := hide (f520.out.tr hfr)
      have fc := hide (fb.out.tr hfr)
      clear hfr fa fb O19 O20 OO f519 f520 p1 p2 p3 p4
      go_wp2_with (fail)
      refine (HAw.out w21 (F5.out.tr f521.out)).mono ?_
      rintro en w22 ⟨rfl, hfr⟩
      have F22 := hide ((F5.out.tr f521.out).tr hfr)
      clear hfr
      go_wp2_with (fail)
      go_ret
      exact ⟨rfl, F22.out⟩
end Go.Proofs.YtapfbjaopbcgjaaDoor
