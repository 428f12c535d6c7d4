/- TermsBack, walked. -/
import Derived.Test.YtcdhbdhhknlbaaaK12
import Derived.Deep.RegionHeld3
import Derived.Deep.DeepCutAuto
namespace Go.Proofs.Ytcdhbdhhknlbaaa
set_option linter.unusedVariables false
set_option linter.unusedSimpArgs false
open Go.RowKit

theorem un_iz (l : List Nat) : un l = iz .u64 (l.map Int.ofNat) := by simp [un, iz]
theorem map_ofNat_inj {a b : List Nat} : a.map Int.ofNat = b.map Int.ofNat ↔ a = b := by
  constructor
  · intro h
    have h2 := congrArg (List.map Int.toNat) h
    simpa [Function.comp_def] using h2
  · intro h; rw [h]
/-- Build's answer, in one form. -/
theorem tbuild_one {w w' : World} {l : List Tx} {at_ : List Nat} {en : Ending} (hu : U64s at_) (h : BuildP w l at_ en w') :
    Fr No w w' ∧ ∃ (A : Option Addr) (m : Nat) (e : Int) (bs : List UInt8), en = .returned (.tuple #[.slice A m m, .int .i64 e]) ∧ bs.length = m ∧ Own w' w.heap.size 5 1 (.slice A m m) m (by8 bs) ∧ ((e = 0 ∧ Form9 bs l at_) ∨ (e = 1 ∧ m = 0)) := by
  obtain ⟨h1, (⟨h2, A, m, h3, h4, h5⟩ | ⟨h2, h3⟩)⟩ := h
  · exact ⟨h1, A, m, 0, dictB l at_, h4, h3.symm, h5, .inl ⟨rfl, h2, hu, rfl⟩⟩
  · exact ⟨h1, none, 0, 1, [], h3, rfl, Own.nil _ _ _ _, .inr ⟨rfl, rfl⟩⟩

set_option maxRecDepth 100000 in
set_option maxHeartbeats 4000000 in
theorem tback_any (A0 A1 A2 A3 : Option Addr) (n0 c0 n1 c1 n2 c2 n3 c3 : Nat) (l o : List Tx) (at_ vs : List Nat) (w : World)
    (h0 : l.length = n0) (x0 : n0 ≤ c0) (y0 : c0 ≤ maxLen) (r0 : Rd w w.heap.size A0 (svs l)) (t0 : ∀ t ∈ l, t.length ≤ maxLen)
    (h1 : o.length = n1) (x1 : n1 ≤ c1) (y1 : c1 ≤ maxLen) (r1 : Rd w w.heap.size A1 (svs o)) (t1 : ∀ t ∈ o, t.length ≤ maxLen)
    (h2 : at_.length = n2) (x2 : n2 ≤ c2) (y2 : c2 ≤ maxLen) (r2 : Rd w w.heap.size A2 (un at_)) (u2 : U64s at_)
    (h3 : vs.length = n3) (x3 : n3 ≤ c3) (y3 : c3 ≤ maxLen) (r3 : Rd w w.heap.size A3 (un vs)) (u3 : U64s vs) :
    Calls Try.prog 4 #[.slice A0 n0 c0, .slice A1 n1 c1, .slice A2 n2 c2, .slice A3 n3 c3] w (RetB true w) := by
  by_cases g0 : 300 < n0
  · have d1 : decide ((300 : Int) < (n0 : Int)) = true := decide_eq_true (by omega)
    clear r0 r1 r2 r3 t0 t1 u2 u3 h0 h1 h2 h3
    go_enter Try.func4, Try.ntmps4
    go_wp2_with (go_at_call 10; refine (awake_any _).mono ?_; rintro en w2 ⟨rfl, hfr⟩; have HF := hide hfr; clear hfr)
    go_ret
    exact ⟨rfl, HF.out⟩
  have d1 : decide ((300 : Int) < (n0 : Int)) = false := decide_eq_false (by omega)
  by_cases g1 : 300 < n1
  · have d2 : decide ((300 : Int) < (n1 : Int)) = true := decide_eq_true (by omega)
    clear r0 r1 r2 r3 t0 t1 u2 u3 h0 h1 h2 h3
    go_enter Try.func4, Try.ntmps4
    go_wp2_with (go_at_call 10; refine (awake_any _).mono ?_; rintro en w2 ⟨rfl, hfr⟩; have HF := hide hfr; clear hfr)
    go_ret
    exact ⟨rfl, HF.out⟩
  have d2 : decide ((300 : Int) < (n1 : Int)) = false := decide_eq_false (by omega)
  have HL := hide h0
  have HO := hide h1
  have HA := hide h2
  have HV := hide h3
  have HR0 := hide r0
  have HR1 := hide r1
  have HR2 := hide r2
  have HR3 := hide r3
  have HT0 := hide t0
  have HT1 := hide t1
  have HU2 := hide u2
  have HU3 := hide u3
  clear r0 r1 r2 r3 t0 t1 u2 u3 h0 h1 h2 h3
  go_enter Try.func4, Try.ntmps4
  go_wp2_with (fail)
  refine (awake_any w).mono ?_
  rintro en w1 ⟨rfl, hfr⟩
  have HF1 := hide hfr
  have HB1 := hide (tbuild_any A0 A2 n0 n2 c0 c2 w.heap.size l at_ w1 HL.out x0 y0 HA.out x2 y2 hfr.size (HR0.out.fr0 hfr) (HR2.out.fr0 hfr) HT0.out HU2.out)
  clear hfr
  go_wp2_with (fail)
  refine HB1.out.mono ?_
  rintro en w2 hbp
  obtain ⟨hfr, Ab, mb, e1, bs, rfl, hbl, hob, hb⟩ := tbuild_one HU2.out hbp
  have HF2 : Hid (Fr No w w2) := hide (HF1.out.tr hfr)
  have HOb := hide hob
  have HBl := hide hbl
  have HB := hide hb
  clear hbp hfr hob hbl hb HB1
  have HB2 := hide (tbuild_any A1 A3 n1 n3 c1 c3 w.heap.size o vs w2 HO.out x1 y1 HV.out x3 y3 HF2.out.size (HR1.out.fr0 HF2.out) (HR3.out.fr0 HF2.out) HT1.out HU3.out)
  go_wp2_with (fail)
  refine HB2.out.mono ?_
  rintro en w3 hbp
  obtain ⟨hfr, Ac, mc, e2, cs, rfl, hcl, hoc, hc⟩ := tbuild_one HU3.out hbp
  have HF3 : Hid (Fr No w w3) := hide (HF2.out.tr hfr)
  have HOc := hide hoc
  have HCl := hide hcl
  have HC := hide hc
  have HOb3 := hide (HOb.out.fr0 hfr)
  clear hbp hfr hoc hcl hc HB2
  by_cases he1 : e1 = 0
  case neg =>
    have d3 : (e1 != 0) = true := by simpa using he1
    have hm0 : mb = 0 := by
      rcases HB.out with ⟨h, _⟩ | ⟨_, h⟩
      · exact absurd h he1
      · exact h
    subst hm0
    clear he1
    go_wp2_with (fail)
    go_ret
    exact ⟨rfl, HF3.out⟩
  case pos =>
  have d3 : (e1 != 0) = false := by simpa using he1
  have HFo : Hid (Form9 bs l at_) := hide (by
    rcases HB.out with ⟨_, h⟩ | ⟨h, _⟩
    · exact h
    · rw [he1] at h; cases h)
  clear he1 HB
  have hmb : mb ≤ 140737488300000 := by
    rw [← HBl.out, ← HFo.out.2.2]
    have h1 := dictB_le (at_ := at_) HFo.out.1.2.2.1
    have h2 := HFo.out.1.1
    omega
  have HO1 := hide (topen_any Ab mb mb w3.heap.size bs w3 HBl.out (Nat.le_refl _) (by unfold maxLen; omega) (by omega) (Nat.le_refl _) HOb3.out.rd)
  go_wp2_with (fail)
  refine HO1.out.mono ?_
  rintro en w4 ⟨hfr, (⟨G, l', a', hf, rfl, hd⟩ | ⟨hno, _⟩)⟩
  rotate_left
  · exact absurd HFo.out (hno _ _)
  obtain ⟨rfl, rfl⟩ := form9_inj hf HFo.out
  have HD : Hid (DictP w4 w3.heap.size (some ⟨G, 0, none⟩) l' a') := hide ⟨.inr ⟨G, rfl, hd⟩⟩
  have HF4 : Hid (Fr No w w4) := hide (HF3.out.tr hfr)
  have HF34 := hide hfr
  have HLn := hide (plen_any w3.heap.size _ l' a' w4 HD.out)
  rw [HL.out] at HLn
  have d4 : ((n0 : Int) != n0) = false := by simp
  have HHa : Hid (n2 = n0) := hide (by rw [← HL.out, ← HA.out]; exact HFo.out.1.2.1.symm)
  clear hf hd hfr HO1
  go_wp2_with (go_at_call 14; refine HLn.out.mono ?_; rintro en w5 ⟨rfl, rfl⟩)
  go_loopw [15] (fun i wr => ∃ k : Nat, k ≤ n0 ∧ i = .int .i64 k ∧ Hid (Fr No w4 wr)) (fun i _ => n0 - (intOf i).toNat)
  case atStart => exact ⟨0, by omega, rfl, hide (Fr.refl _ _)⟩
  case round =>
    obtain ⟨wo, rfl⟩ : ∃ wo : World, wo = wr := ⟨_, rfl⟩
    obtain ⟨k, hk, rfl, HFr⟩ := hrel
    by_cases hlt : k < n0
    · have hkl : k < l'.length := by rw [HL.out]; exact hlt
      have hka : k < a'.length := by rw [HA.out, HHa.out]; exact hlt
      have HFw : Hid (Fr No w wo) := hide (HF4.out.tr HFr.out)
      obtain ⟨ad, X, hA0, _, kc, hX1, hX2, hX3⟩ := cellStr (HR0.out.fr0 HFw.out) hkl
      subst hA0
      obtain ⟨ad2, hA2, _, kv⟩ := cellU64 (HR2.out.fr0 HFw.out) hka
      subst hA2
      have HDo := hide (HD.out.fr0 HFr.out)
      have HTm := hide (fun W hW => pterm_any w3.heap.size (some ⟨G, 0, none⟩) l' a' W (k : Nat) hW)
      have HAt := hide (fun W hW => pat_any w3.heap.size (some ⟨G, 0, none⟩) l' a' W (k : Nat) hW)
      have hSv : sv (l'.getD k []) = .string X := by rw [sv, ← hX1]
      rw [show termAt l' (k : Nat) = l'.getD k [] by unfold termAt; rw [if_pos (by omega), Int.toNat_natCast], hSv] at HTm
      rw [show valAt a' (k : Nat) = a'.getD k 0 by unfold valAt; rw [if_pos (by omega), Int.toNat_natCast]] at HAt
      obtain ⟨v, hv⟩ : ∃ v, v = a'.getD k 0 := ⟨_, rfl⟩
      rw [← hv] at HAt kv
      have q1 : (0 : Int) ≤ (k : Int) := by omega
      have q2 : (k : Int) < (n0 : Int) := by omega
      have q3 : (k : Int) < (n2 : Int) := by have := HHa.out; omega
      have q4 : (X.toList != X.toList) = false := by simp
      have q5 : ((v : Int) != v) = false := by simp
      have HK0 : Hid (wo.drew.cell? (ad.add k) = some (.string X) ∧ wo.drew.cell? (ad2.add k) = some (.int .u64 (v : Nat))) := hide ⟨kc, kv⟩
      have kc' : wo.drew.cell? (ad.add k) = some (.string X) := kc
      have kv' : wo.drew.cell? (ad2.add k) = some (.int .u64 (v : Nat)) := kv
      have HDd := hide (HDo.out.fr0 (Fr.refl No wo).drew)
      clear hkl hka hX1 hX2 hX3 hSv hv kc kv hlt
      go_upto_region 13 with (fail)
      refine wp_named fun K hK => ?_
      go_cut [87] from 70 to 87 (fun v wx => v = .bool false ∧ Hid (Fr No w4 wx))
      case first =>
        go_region_held3 (fun W => W.cell? (ad.add k) = some (.string X) ∧ W.cell? (ad2.add k) = some (.int .u64 (v : Nat))) (first | exact HK6.out | exact HK5.out | exact HK0.out) (first
          | (go_at_call 15; refine (HTm.out _ HDd.out).mono ?_; rintro en w5 ⟨rfl, hfr⟩; have HF5 : Hid (Fr No w4 w5) := hide (HFr.out.tr (Fr.of_drewN (n := 1) hfr)); have HD5 := hide (HDd.out.fr0 hfr); have HK5 : Hid (w5.cell? (ad.add k) = some (.string X) ∧ w5.cell? (ad2.add k) = some (.int .u64 (v : Nat))) := hide ⟨hfr.cell HK0.out.1 (fun h => h), hfr.cell HK0.out.2 (fun h => h)⟩; clear hfr)
          | (go_at_call 16; refine (HAt.out _ HD5.out).mono ?_; rintro en w6 ⟨rfl, hfr⟩; have HF6 : Hid (Fr No w4 w6) := hide (HF5.out.tr hfr); have HK6 : Hid (w6.cell? (ad.add k) = some (.string X) ∧ w6.cell? (ad2.add k) = some (.int .u64 (v : Nat))) := hide ⟨hfr.cell HK5.out.1 (fun h => h), hfr.cell HK5.out.2 (fun h => h)⟩; clear hfr))
        all_goals (go_wp2; go_meet)
        all_goals exact ⟨rfl, HF6⟩
      case rest =>
        obtain ⟨rfl, HFc⟩ := hcut
        refine hK _ _ ?_
        clear hK kc' kv'
        go_wp2_with (fail)
        go_roundw
        case rel => exact ⟨k + 1, by omega, by go_num, HFc⟩
        case measure => simp [intOf]; omega
    · have HFw : Hid (Fr No w wo) := hide (HF4.out.tr HFr.out)
      have d5 : decide ((k : Int) < (n0 : Int)) = false := decide_eq_false (by omega)
      have d5b : decide (k < n0) = false := decide_eq_false hlt
      go_upto_region 15 with (fail)
      refine wp_named fun K hK => ?_
      go_cut [103] from 88 to 103 (fun v wx => v = .bool false ∧ Hid (Fr No w4 wx))
      case first =>
        by_cases he2 : e2 = 0
        · have HFc : Hid (Form9 cs o vs) := hide (by
            rcases HC.out with ⟨_, h⟩ | ⟨h, _⟩
            · exact h
            · rw [he2] at h; cases h)
          have HF3o : Hid (Fr No w3 wo) := hide (HF34.out.tr HFr.out)
          have hmc : mc ≤ 140737488300000 := by
            rw [← HCl.out, ← HFc.out.2.2]
            have h1 := dictB_le (at_ := vs) HFc.out.1.2.2.1
            have h2 := HFc.out.1.1
            omega
          have HKb := hide (kbytes_any Ab Ac mb mb mc mc wo.heap.size wo.heap.size bs cs wo HBl.out HCl.out (Nat.le_refl _) (by unfold maxLen; omega) (Nat.le_refl _) (by unfold maxLen; omega) (HOb3.out.fr0 HF3o.out).rd (HOc.out.fr0 HF3o.out).rd)
          rw [form9_same HFo.out HFc.out] at HKb
          have HKs := hide (fun W (f : Fr No w W) => sameS_any A0 A1 n0 c0 n1 c1 w.heap.size w.heap.size l' o W HL.out HO.out x0 y0 x1 y1 (HR0.out.fr0 f) (HR1.out.fr0 f))
          have HKu := hide (fun W (f : Fr No w W) => sameU64_any A2 A3 n2 c2 n3 c3 w.heap.size w.heap.size (a'.map Int.ofNat) (vs.map Int.ofNat) W (by rw [List.length_map]; exact HA.out) (by rw [List.length_map]; exact HV.out) x2 y2 x3 y3 (by rw [← un_iz]; exact HR2.out.fr0 f) (by rw [← un_iz]; exact HR3.out.fr0 f))
          have hdu : decide (a'.map Int.ofNat = vs.map Int.ofNat) = decide (a' = vs) := by rw [Bool.eq_iff_iff, decide_eq_true_iff, decide_eq_true_iff]; exact map_ofNat_inj
          rw [hdu] at HKu
          have d6 : (e2 == 0) = true := by simpa using he2
          generalize decide (l' = o) = p1 at HKb HKs
          generalize decide (a' = vs) = p2 at HKb HKu
          clear he2 hmc hdu hlt
          cases p1 with
          | false =>
            go_wp2_with (first
              | (go_at_call 17; refine HKb.out.mono ?_; rintro en w5 ⟨rfl, hq⟩; have HF5 : Hid (Fr No wo w5) := hide (by obtain ⟨nq, rfl⟩ := hq; exact (Fr.refl No wo).drewN nq); clear hq)
              | (go_at_call 18; refine (HKs.out _ (HFw.out.tr HF5.out)).mono ?_; rintro en w6 ⟨rfl, hq⟩; have HF6 : Hid (Fr No wo w6) := hide (by obtain ⟨nq, rfl⟩ := hq; exact HF5.out.drewN nq); clear hq))
            go_meet
            exact ⟨rfl, hide (HFr.out.tr HF6.out)⟩
          | true =>
            go_wp2_with (first
              | (go_at_call 17; refine HKb.out.mono ?_; rintro en w5 ⟨rfl, hq⟩; have HF5 : Hid (Fr No wo w5) := hide (by obtain ⟨nq, rfl⟩ := hq; exact (Fr.refl No wo).drewN nq); clear hq)
              | (go_at_call 18; refine (HKs.out _ (HFw.out.tr HF5.out)).mono ?_; rintro en w6 ⟨rfl, hq⟩; have HF6 : Hid (Fr No wo w6) := hide (by obtain ⟨nq, rfl⟩ := hq; exact HF5.out.drewN nq); clear hq)
              | (go_at_call 19; refine (HKu.out _ (HFw.out.tr HF6.out)).mono ?_; rintro en w7 ⟨rfl, hq⟩; have HF7 : Hid (Fr No wo w7) := hide (by obtain ⟨nq, rfl⟩ := hq; exact HF6.out.drewN nq); clear hq))
            go_meet
            exact ⟨by cases p2 <;> simp, hide (HFr.out.tr HF7.out)⟩
        · have d6 : (e2 == 0) = false := by simpa using he2
          clear he2 hlt
          go_wp2_with (fail)
          go_meet
          exact ⟨rfl, HFr⟩
      case rest =>
        obtain ⟨rfl, HFc⟩ := hcut
        obtain ⟨w5, rfl⟩ : ∃ W : World, W = wc := ⟨_, rfl⟩
        have HFw5 : Hid (Fr No w w5) := hide (HF4.out.tr HFc.out)
        have HO5 := hide (HOb3.out.fr0 (HF34.out.tr HFc.out))
        have hmb0 : 0 < mb := by
          rw [← HBl.out, ← HFo.out.2.2, dictB, List.length_append]
          have := (enc_len l'.length).1
          omega
        obtain ⟨m1, hm1⟩ : ∃ m1, mb = m1 + 1 := ⟨mb - 1, by omega⟩
        have HOp1 := hide (topen_any Ab m1 mb w5.heap.size (bs.take m1) w5 (by rw [List.length_take, HBl.out]; omega) (by omega) (by unfold maxLen; omega) (by omega) (Nat.le_refl _) (by rw [by8_take]; exact HO5.out.rd.tk m1))
        have HN1 : Hid (∀ L AT, ¬ Form9 (bs.take m1) L AT) := hide (by
          have h := form9_less HFo.out
          rw [HBl.out, hm1, Nat.add_sub_cancel] at h
          exact h)
        have HN2 := hide (form9_more HFo.out 0)
        have q1 : (mb : Int) - 1 = (m1 : Int) := by omega
        have q2 : (0 : Int) ≤ (m1 : Int) := by omega
        have q3 : (m1 : Int) ≤ (mb : Int) := by omega
        refine hK _ _ ?_
        clear hK d5 d5b hlt hmb0 HOb3 HOb HFr HFw hm1
        go_wp2_with (fail)
        refine HOp1.out.mono ?_
        rintro en w6 ⟨hfr, (⟨_, L, AT, hf, _, _⟩ | ⟨_, rfl⟩)⟩
        · exact absurd hf (HN1.out L AT)
        have HF6 : Hid (Fr No w w6) := hide (HFw5.out.tr hfr)
        have HO6 := hide (HO5.out.fr0 hfr)
        clear hfr HOp1 q1 q2 q3
        obtain ⟨i0, hi, hz, hsz, hby⟩ := info_parts Try.info5
        have HOe := hide (own_empty w6 5)
        have HSe := hide (Src.ofRd (P := Try.prog) (size := 1) (w6.alloc (.cells #[] 5)) Try.underlying24 Ab mb mb (by8 bs) (by rw [by8_length, HBl.out]; omega) (Nat.le_refl _) (HO6.out.fr0 ((Fr.refl No w6).alloc _)).rd (by8_one _))
        have b1 : (0 + mb) * 1 ≤ 140737488355328 := by omega
        have b2 : 0 + mb ≤ maxLen := by unfold maxLen; omega
        have b3 : w6.heap.size ≤ (w6.alloc (.cells #[] 5)).heap.size := by simp
        have c1' : (0 + mb + 1) * 1 ≤ 140737488355328 := by omega
        have c2' : 0 + mb + 1 ≤ maxLen := by unfold maxLen; omega
        go_wp2_with (first
          | (at_builtin; refine wpList_append_gen _ rfl (.tmp 114) (.tmp 115) 24 24 rfl w6.heap.size 5 i0 (.int .u8 0) 1 1 Try.underlying24 hi hz hsz hby rfl (.slice (some ⟨w6.heap.size, 0, none⟩) 0 0) 0 [] rfl HOe.out _ mb (by8 bs) rfl HSe.out b1 b2 b3 ?_; intro v7 w7 hown hfr hat; have HO7 := hide hown; have HF7 : Hid (Fr No w6 w7) := hide (((Fr.refl No w6).alloc (.cells #[] 5)).own hfr (fun k hk => .inl (HOe.out.lt k hk).1)); have c3' : w6.heap.size ≤ (w7.alloc (.cells #[.int .u8 0] 5)).heap.size := (by have := HF7.out.size; simp; omega); clear hown hfr hat)
          | (at_builtin; refine wpList_append_gen _ rfl (.tmp 116) (.tmp 117) 24 24 rfl w6.heap.size 5 i0 (.int .u8 0) 1 1 Try.underlying24 hi hz hsz hby rfl v7 (0 + mb) _ rfl (HO7.out.fr0 ((Fr.refl No w7).alloc (.cells #[.int .u8 0] 5))) _ 1 [.int .u8 0] rfl (Src.one (P := Try.prog) w7 (e := 5) Try.underlying24 (.int .u8 0) rfl) c1' c2' c3' ?_; intro v9 w9 hown hfr hat; obtain ⟨m9, hm9⟩ : ∃ m, m = 0 + mb + 1 := ⟨_, rfl⟩; rw [← hm9] at hown; have HM9 := hide hm9; clear hm9; obtain ⟨A9, c9, rfl, x9, z9, _⟩ := hown.form; have HO9 := hide hown; have HF9 : Hid (Fr No w6 w9) := hide ((HF7.out.alloc _).own hfr (fun k hk => .inl (HO7.out.lt k hk).1)); have HX9 := hide x9; have HZ9 := hide z9; clear hown hfr hat x9 z9)
          | fail)
        have hl9 : (bs ++ [0]).length = m9 := by rw [List.length_append, HBl.out, HM9.out]; simp
        have hr9 : Rd w9 w9.heap.size A9 (by8 (bs ++ [0])) := by
          have h := HO9.out.rd
          rw [List.nil_append] at h
          rw [by8_append]
          exact h
        have HOp2 := hide (topen_any A9 m9 c9 w9.heap.size (bs ++ [0]) w9 hl9 HX9.out HZ9.out (by have := HM9.out; omega) (Nat.le_refl _) hr9)
        clear hl9 hr9
        refine HOp2.out.mono ?_
        rintro en w10 ⟨hfr, (⟨_, L, AT, hf, _, _⟩ | ⟨_, rfl⟩)⟩
        · exact absurd hf (HN2.out L AT)
        have HF10 : Hid (Fr No w w10) := hide ((HF6.out.tr HF9.out).tr hfr)
        clear hfr HOp2
        go_wp2_with (fail)
        go_ret
        exact ⟨rfl, HF10.out⟩
end Go.Proofs.Ytcdhbdhhknlbaaa
