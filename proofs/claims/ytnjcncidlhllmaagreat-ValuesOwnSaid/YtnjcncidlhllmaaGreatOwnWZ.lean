/- ValuesOwn, walked. -/
import Derived.Test.YtnjcncidlhllmaaGreatK16
namespace Go.Proofs.YtnjcncidlhllmaaGreat
set_option linter.unusedVariables false
set_option linter.unusedSimpArgs false
open Go.RowKit

theorem Tryz.infoROw : (Tryz.prog.info? 45).map (fun i => (i.zero, i.size, i.bytes)) = some (some (.slice none 0 0), 1, 24) := by kernel_rfl
theorem src_rowO (w : World) (A : Option Addr) (n c : Nat) : Src Tryz.prog 1 39 (.slice (some ⟨w.heap.size, 0, none⟩) 1 1) 1 [.slice A n c] (w.alloc (.cells #[.slice A n c] 45)) :=
  Src.one (P := Tryz.prog) w (e := 45) Tryz.underlying39 _ rfl
set_option maxRecDepth 100000 in
set_option maxHeartbeats 8000000 in
theorem valuesOwn_any (A0 A1 : Option Addr) (n0 c0 n1 c1 : Nat) (rows : Rw) (rt : RwT) (w : World)
    (h0 : rows.length = n0) (x0 : n0 ≤ c0) (y0 : c0 ≤ maxLen) (z0 : c0 * 24 ≤ 140737488351232) (r0 : ISl w w.heap.size A0 rows) (b0 : ∀ l ∈ rows, l.length * 8 ≤ 140737488351232) (i0 : ∀ l ∈ rows, InI l)
    (h1 : rt.length = n1) (x1 : n1 ≤ c1) (y1 : c1 ≤ maxLen) (z1 : c1 * 24 ≤ 140737488351232) (r1 : TSl w w.heap.size A1 rt) (b1 : ∀ l ∈ rt, l.length * 16 ≤ 140737488351232) :
    Calls Tryz.prog 4 #[.slice A0 n0 c0, .slice A1 n1 c1] w (RetB true w) := by
  obtain ⟨iR, hiR, hzR, hsR, hbR⟩ := info_parts Tryz.infoRI
  obtain ⟨iT, hiT, hzT, hsT, hbT⟩ := info_parts Tryz.infoRT
  obtain ⟨iO, hiO, hzO, hsO, hbO⟩ := info_parts Tryz.infoROw
  have HL := hide h0
  have HL1 := hide h1
  have HI := hide i0
  have HC := hide (And.intro x0 y0)
  have HC1 := hide (And.intro x1 y1)
  have HLn := hide (fun W (f : Fr No w W) => lentRows_any A0 n0 c0 W.heap.size rows W h0 x0 y0 (by omega) (fun l hl => by have := b0 l hl; omega) (Nat.le_refl _) ((r0.fr0 f).more f.size))
  have HLt := hide (fun W (f : Fr No w W) => texts_any A1 n1 c1 W.heap.size rt W h1 x1 y1 (by omega) (fun l hl => by have := b1 l hl; omega) (Nat.le_refl _) ((r1.fr0 f).more f.size))
  unfold maxLen at y0 y1
  clear h0 h1 i0 r0 r1 b0 b1
  go_enter Tryz.func4, Tryz.ntmps4
  go_wp2_with (fail)
  refine (known12_any w).mono ?_
  rintro en w1 ⟨rfl, hf⟩
  have HF1 := hide hf
  clear hf
  go_wp2_with (fail)
  refine (HLn.out w1 HF1.out).mono ?_
  rintro en w2 ⟨A2, c2, rfl, j1, j2, hlr, hf⟩
  have HF2 := hide (HF1.out.tr hf)
  have HNu := hide (numbers_any A2 n0 c2 w2.heap.size rows w2 HL.out HI.out (by omega) j2 (Nat.le_refl _) hlr.isl)
  unfold maxLen at j2
  clear hf hlr HLn
  go_wp2_with (fail)
  refine HNu.out.mono ?_
  rintro en w3 ⟨v3, rfl, hob, hf⟩
  obtain ⟨bs, hbs⟩ : ∃ x, x = keptV rows := ⟨_, rfl⟩
  obtain ⟨m, hm⟩ : ∃ x, x = bs.length := ⟨_, rfl⟩
  rw [← hbs, ← hm] at hob
  obtain ⟨A3, c3, rfl, q1, q2, _⟩ := hob.form
  have HO3 := hide hob
  have HF3 := hide (HF2.out.tr hf)
  have HQ3 := hide (And.intro q1 q2)
  have hmb : m ≤ 140737488300000 := by
    rw [hm, hbs]
    unfold keptV
    split
    · rename_i h
      have := formV_leT (sortV_ok h) (sortV_in HI.out)
      omega
    · simp
  have HOk : Hid (m ≠ 0 → okV rows) := hide (fun h => keptV_ne.1 (fun e => by rw [hm, hbs, e] at h; simp at h))
  have HBs := hide hbs
  have HM := hide hm
  unfold maxLen at q2
  clear hf hob hbs hm HNu
  go_wp2_with (fail)
  refine (HLt.out w3 HF3.out).mono ?_
  rintro en w5 ⟨A5, c5, rfl, j3, j4, hlr, hf⟩
  have HF35 := hide hf
  have HTx := hide (texts12_any A5 n1 c5 w5.heap.size rt w5 HL1.out j3 j4 (Nat.le_refl _) hlr.tsl)
  unfold maxLen at j4
  clear hf hlr HLt
  go_wp2_with (fail)
  refine HTx.out.mono ?_
  rintro en w9 ⟨v9, rfl, hob, hf⟩
  obtain ⟨cs, hcs⟩ : ∃ x, x = keptT rt := ⟨_, rfl⟩
  obtain ⟨mt, hmt⟩ : ∃ x, x = cs.length := ⟨_, rfl⟩
  rw [← hcs, ← hmt] at hob
  obtain ⟨A9, c9, rfl, q3, q4, _⟩ := hob.form
  have HO9 := hide hob
  have HQ9 := hide (And.intro q3 q4)
  have HF39 := hide (HF35.out.tr hf)
  have HF9 := hide (HF3.out.tr HF39.out)
  have hmtb : mt ≤ 400000000 := by rw [hmt, hcs]; exact keptT_len rt
  have HCs := hide hcs
  have HMt := hide hmt
  have HOkT : Hid (mt ≠ 0 → okT rt) := hide (fun h => keptT_ne.1 (fun e => by rw [hmt, hcs, e] at h; simp at h))
  have HOn := hide (openNumbers_any A3 m c3 w9.heap.size bs w9 HM.out.symm HQ3.out.1 HQ3.out.2 (by omega) (Nat.le_refl _) (HO3.out.fr0 HF39.out).rd)
  unfold maxLen at q4
  clear hf hob hcs hmt HTx
  by_cases hm0 : m = 0
  · subst hm0
    go_wp2_with (fail)
    go_ret
    exact ⟨rfl, HF9.out⟩
  have hmI : ((m : Int) == 0) = false := by simpa using hm0
  by_cases hmt0 : mt = 0
  · subst hmt0
    clear hm0
    go_wp2_with (fail)
    go_ret
    exact ⟨rfl, HF9.out⟩
  have hmtI : ((mt : Int) == 0) = false := by simpa using hmt0
  have hok : okV rows := HOk.out hm0
  have hokT : okT rt := HOkT.out hmt0
  have HOk2 := hide hok
  have HOkT2 := hide hokT
  clear hm0 hmt0 HOk HOkT hok hokT
  by_cases hn0 : 300 < n0
  · have d0 : decide ((300 : Int) < (n0 : Int)) = true := decide_eq_true (by omega)
    have d1 : decide (300 < n0) = true := decide_eq_true hn0
    go_wp2_with (fail)
    go_ret
    exact ⟨rfl, HF9.out⟩
  have d0 : decide ((300 : Int) < (n0 : Int)) = false := decide_eq_false (by omega)
  have d1 : decide (300 < n0) = false := decide_eq_false hn0
  by_cases hn1 : 300 < n1
  · have d2 : decide ((300 : Int) < (n1 : Int)) = true := decide_eq_true (by omega)
    have d3 : decide (300 < n1) = true := decide_eq_true hn1
    clear hn0
    go_wp2_with (fail)
    go_ret
    exact ⟨rfl, HF9.out⟩
  have d2 : decide ((300 : Int) < (n1 : Int)) = false := decide_eq_false (by omega)
  have d3 : decide (300 < n1) = false := decide_eq_false hn1
  have hk0 : n0 ≤ 300 := by omega
  have hk1 : n1 ≤ 300 := by omega
  have HFm : Hid (FormV bs (sortV rows)) := hide (by rw [HBs.out]; exact keptV_form HOk2.out HI.out)
  have HOp := hide (opened_texts HOkT2.out HCs.out)
  clear hn0 hn1
  go_wp2_with (fail)
  refine HOn.out.mono ?_
  rintro en w10 ⟨hf, hcase⟩
  obtain ⟨G, bits, lens, all, rfl, hcol, hrv⟩ : ∃ G bits lens all, en = .returned (.tuple #[.pointer (some ⟨G, 0, none⟩), .int .i64 0]) ∧ ColO w10 w9.heap.size G bits lens all n0 ∧ rowsV bits lens all n0 = sortV rows := by
    rcases hcase with ⟨hno, _⟩ | ⟨rs, hrs, G, bits, lens, all, he, hc, hr⟩
    · exact absurd ⟨_, HFm.out⟩ hno
    · have e : rs = sortV rows := by rw [← hrs.rd, HFm.out.rd]
      subst e
      rw [sortV_len, HL.out] at hc hr
      exact ⟨G, bits, lens, all, he, hc, hr⟩
  have HF910 := hide hf
  have HCol0 := hide hcol
  have HRv := hide hrv
  have HOt := hide (openTexts_any A9 mt c9 w10.heap.size cs w10 HMt.out.symm HQ9.out.1 HQ9.out.2 (by omega) (Nat.le_refl _) (HO9.out.fr0 hf).rd)
  clear hf hcase hcol hrv HOn d0 d1 d2 d3 hmI hmtI
  go_wp2_with (fail)
  refine HOt.out.mono ?_
  rintro en w11 ⟨hf, hcase⟩
  obtain ⟨Gt, bt, lt, at', rfl, hcol, hrv⟩ : ∃ G bits lens all, en = .returned (.tuple #[.pointer (some ⟨G, 0, none⟩), .int .i64 0]) ∧ ColT w11 w10.heap.size G bits lens all n1 (termsV rt) ∧ rowsV bits lens all n1 = ordsR rt := by
    rcases hcase with ⟨hno, _⟩ | ⟨_, G, bits, lens, all, he, hc, hr⟩
    · exact absurd HOp.out.1 hno
    · rw [HOp.out.2.1, HOp.out.2.2.1, HL1.out] at hc
      rw [HOp.out.2.2.1, HOp.out.2.2.2, HL1.out] at hr
      exact ⟨G, bits, lens, all, he, hc, hr⟩
  have HF911 := hide (HF910.out.tr hf)
  have HF11 := hide (HF9.out.tr HF911.out)
  have HCol := hide (HCol0.out.fr0 hf)
  have HColT := hide hcol
  have HRvT := hide hrv
  -- the contracts of rows
  have HNum := hide (fun W (f : Fr No w11 W) k (hk : k < n0) => by
    have hk1 : k < rows.length := by rw [HL.out]; exact hk
    have hrow : rowV bits lens all k = sortI (rows.getD k []) := by rw [rowsV_at HRv.out hk, sortV_at hk1]
    have hli : (rows.getD k []).length ≤ 64 := HOk2.out.2 _ (by rw [List.getD, List.getElem?_eq_getElem hk1]; exact List.getElem_mem hk1)
    have h := numRow_in (HCol.out.fr0 f).m hk (by omega) (by rw [hrow, sortI_len]; exact hli)
    rw [hrow] at h
    exact (⟨h, by rw [sortI_len]; exact hli⟩ : Calls Tryz.prog 16 #[.pointer (some ⟨G, 0, none⟩), .int .i64 (k : Nat)] W (GivesL W (sortI (rows.getD k []))) ∧ (sortI (rows.getD k [])).length ≤ 64))
  have HTex := hide (fun k (hk : k < n1) => by
    have hk1 : k < rt.length := by rw [HL1.out]; exact hk
    have hmem := getD_memR hk1
    have hsb : ∀ t ∈ rt.getD k [], t ∈ termsV rt := fun t ht => (termsV_mem rt t).2 ⟨_, hmem, ht⟩
    have hrow : rowV bt lt at' k = ordsV (termsV rt) (rt.getD k []) := by rw [rowsV_at HRvT.out hk, ordsR_at hk1]
    have h64 := HOkT2.out.1.2 _ hmem
    have hsl := setT_le (rt.getD k [])
    have hpk : pickT (termsV rt) (rowV bt lt at' k) = setT (rt.getD k []) := by rw [hrow]; exact pickT_ords (termsV_lt rt) hsb
    have hrl : (rowV bt lt at' k).length ≤ 64 := by rw [hrow, ordsV_len]; omega
    have hrg : ∀ x ∈ rowV bt lt at' k, 0 ≤ x ∧ x < ((termsV rt).length : Int) := fun x hx => by
      rw [hrow] at hx
      obtain ⟨s, hs, rfl⟩ := List.mem_map.1 hx
      have := (ordT_mem (termsV_lt rt) (hsb s ((setT_mem _ s).1 hs))).1
      omega
    have h1 := fun W (f : Fr No w11 W) => txRow_in (HColT.out.fr0 f) hk (by omega) hrl hrg
    have h2 := fun W (f : Fr No w11 W) => ords_in (HColT.out.fr0 f) hk (by omega) hrl
    rw [hpk] at h1
    exact (⟨h1, h2, by omega, hrl⟩ : (∀ W, Fr No w11 W → Calls Tryz.prog 18 #[.pointer (some ⟨Gt, 0, none⟩), .int .i64 (k : Nat)] W (GivesT W (setT (rt.getD k [])))) ∧ (∀ W, Fr No w11 W → Calls Tryz.prog 19 #[.pointer (some ⟨Gt, 0, none⟩), .int .i64 (k : Nat)] W (GivesI W (rowV bt lt at' k))) ∧ (setT (rt.getD k [])).length ≤ 64 ∧ (rowV bt lt at' k).length ≤ 64))
  clear hf hcase hcol hrv HOt HCol0 HRvT HOp HFm
  go_wp2_with (fail)
  go_loopw [11, 12, 13, 14] (fun v11 v12 v13 v14 wr => ∃ (t kL kS : Nat), t ≤ 2 ∧ kL ≤ 300 * t ∧ kS ≤ 300 * t ∧ v14 = .int .i64 (t : Nat) ∧ Hid (Fr No w11 wr) ∧ Hid (RowL wr w11.heap.size v11 kL) ∧ Hid (RowS wr w11.heap.size v12 kS) ∧ Hid (RowN wr w11.heap.size v13 kS)) (fun _ _ _ v14 _ => 2 - (intOf v14).toNat)
  case atStart => exact ⟨0, 0, 0, by omega, by omega, by omega, by go_num, hide (Fr.refl _ _), hide (RowL.nil _ _), hide (RowS.nil _ _), hide (RowN.nil _ _)⟩
  case round =>
    obtain ⟨wa, rfl⟩ : ∃ wo : World, wo = wr := ⟨_, rfl⟩
    obtain ⟨t, kL, kS, ht, hkL, hkS, rfl, HFa, HLa, HSa, HNa⟩ := hrel
    by_cases ht2 : t < 2
    · have dt : decide ((t : Int) < 2) = true := decide_eq_true (by omega)
      go_wp2_with (fail)
      go_loopw [11, 15] (fun v11 i wq => ∃ (k : Nat), k ≤ n0 ∧ i = .int .i64 (k : Nat) ∧ Hid (Fr No w11 wq) ∧ Hid (RowL wq w11.heap.size v11 (kL + k)) ∧ Hid (RowS wq w11.heap.size u12 kS) ∧ Hid (RowN wq w11.heap.size u13 kS)) (fun _ i _ => n0 - (intOf i).toNat)
      case atStart => exact ⟨0, by omega, by go_num, HFa, HLa, HSa, HNa⟩
      case round =>
        obtain ⟨wo, rfl⟩ : ∃ wo : World, wo = wr := ⟨_, rfl⟩
        clear HFa HLa HSa HNa
        obtain ⟨k, hk, rfl, HF, HRL, HRS, HRN⟩ := hrel
        have HLen := hide (numLen_any (HCol.out.fr0 HF.out).m)
        by_cases hlt : k < n0
        · obtain ⟨hcr, hsl⟩ := HNum.out wo HF.out k hlt
          have HRow := hide hcr
          obtain ⟨sr, hsr⟩ : ∃ x, x = sortI (rows.getD k []) := ⟨_, rfl⟩
          rw [← hsr] at HRow hsl
          obtain ⟨li, hli⟩ : ∃ x, x = sr.length := ⟨_, rfl⟩
          rw [← hli] at hsl
          have HLi := hide hli
          obtain ⟨vals, rws, hl0⟩ := HRL.out
          have HL0 := hide hl0
          have b1 : (kL + k + 1) * 24 ≤ 140737488355328 := by omega
          have b2 : kL + k + 1 ≤ maxLen := by unfold maxLen; omega
          clear hcr hsr hli hl0 HRL
          go_wp2_with (first
            | (go_at_call 15; refine HLen.out.mono ?_; rintro en w' ⟨rfl, rfl⟩; clear HLen)
            | (go_at_call 16; refine HRow.out.mono ?_; rintro en w5 ⟨v5, rfl, hown, hfr⟩; rw [← HLi.out] at hown; obtain ⟨A5, c5, rfl, p1, p2, -⟩ := hown.form; have HO5 := hide hown; have HL5 := hide (HL0.out.fr0 hfr); have f6 := hfr.alloc (.cells #[.slice A5 li c5] 41); have HF6 := hide f6; have HOut := hide (HL0.out.1.fr0 f6); have HS6 := hide (HRS.out.fr0 f6); have HN6 := hide (HRN.out.fr0 f6); have HSr := hide (src_row w5 A5 li c5); have hz3 := (HF.out.tr f6).size; unfold maxLen at p2; clear hown hfr HRow f6)
            | (at_builtin; refine wpList_append_gen _ rfl (.tmp 72) (.tmp 74) 22 22 rfl w11.heap.size 41 iR (.slice none 0 0) 1 24 Tryz.underlying22 hiR hzR hsR hbR rfl u11 (kL + k) _ rfl HOut.out _ 1 [.slice A5 li c5] rfl HSr.out b1 b2 hz3 ?_; intro v7 w7 hown hfr hat; have HO7 := hide hown; have HFa := hide hfr; clear hown hfr hat))
          go_roundw
          case rel => exact ⟨k + 1, by omega, by go_num, hide ((HF.out.tr HF6.out).own HFa.out (fun g hg => .inl (HOut.out.lt g hg).1)), hide (RowL.step HL0.out HL5.out hsl HLi.out.symm HO5.out HO7.out HFa.out HF.out.size), hide (HS6.out.off HFa.out (RowL.ofT HOut.out) (by decide) (by decide)), hide (HN6.out.off HFa.out (RowL.ofT HOut.out) (by decide) (by decide))⟩
          case measure => simp [intOf]; omega
        · obtain rfl : k = n0 := by omega
          go_wp2_with (go_at_call 15; refine HLen.out.mono ?_; rintro en w' ⟨rfl, rfl⟩; clear HLen)
          go_loopw [12, 13, 17] (fun v12 v13 i wq => ∃ (q : Nat), q ≤ n1 ∧ i = .int .i64 (q : Nat) ∧ Hid (Fr No w11 wq) ∧ Hid (RowL wq w11.heap.size u11 (kL + k)) ∧ Hid (RowS wq w11.heap.size v12 (kS + q)) ∧ Hid (RowN wq w11.heap.size v13 (kS + q))) (fun _ _ i _ => n1 - (intOf i).toNat)
          case atStart => exact ⟨0, by omega, by go_num, HF, HRL, HRS, HRN⟩
          case round =>
            obtain ⟨wp, rfl⟩ : ∃ wo : World, wo = wr := ⟨_, rfl⟩
            clear HF HRL HRS HRN
            obtain ⟨q, hq, rfl, HF, HRL, HRS, HRN⟩ := hrel
            have HLen := hide (txLen_any (HColT.out.fr0 HF.out))
            by_cases hlq : q < n1
            · obtain ⟨hcr, hco, hsl, hol⟩ := HTex.out q hlq
              have HRow := hide (hcr wp HF.out)
              have HOrd := hide hco
              obtain ⟨st, hst⟩ : ∃ x, x = setT (rt.getD q []) := ⟨_, rfl⟩
              rw [← hst] at HRow hsl
              obtain ⟨sl, hsl2⟩ : ∃ x, x = st.length := ⟨_, rfl⟩
              rw [← hsl2] at hsl
              have HSl := hide hsl2
              obtain ⟨ov, hov⟩ : ∃ x, x = rowV bt lt at' q := ⟨_, rfl⟩
              rw [← hov] at HOrd hol
              obtain ⟨ol, hol2⟩ : ∃ x, x = ov.length := ⟨_, rfl⟩
              rw [← hol2] at hol
              have HOl := hide hol2
              have b1 : (kS + q + 1) * 24 ≤ 140737488355328 := by omega
              have b2 : kS + q + 1 ≤ maxLen := by unfold maxLen; omega
              clear hcr hco hst hsl2 hov hol2
              go_wp2_with (go_at_call 17; refine HLen.out.mono ?_; rintro en w' ⟨rfl, rfl⟩; clear HLen)
              refine HRow.out.mono ?_
              rintro en w12 ⟨v12, rfl, hown, hf⟩
              rw [← HSl.out] at hown
              obtain ⟨A12, c12, rfl, p1, p2, -⟩ := hown.form
              have HO12 := hide hown
              have HF12 := hide hf
              have HOrd12 := hide (HOrd.out w12 (HF.out.tr hf))
              unfold maxLen at p2
              clear hown hf HRow HOrd
              go_wp2_with (fail)
              refine HOrd12.out.mono ?_
              rintro en w13 ⟨v13, rfl, hown, hf⟩
              rw [← HOl.out] at hown
              obtain ⟨A13, c13, rfl, p3, p4, -⟩ := hown.form
              have HO12' := hide (HO12.out.fr0 hf)
              have HO13 := hide hown
              have HF13 := hide (HF12.out.tr hf)
              unfold maxLen at p4
              obtain ⟨vals, rws, hs0⟩ := HRS.out
              have HS0 := hide hs0
              have HS13 := hide (hs0.fr0 HF13.out)
              obtain ⟨valsN, rwsN, hn0⟩ := HRN.out
              have HN0 := hide (hn0.fr0 HF12.out)
              have f6 := HF13.out.alloc (.cells #[.slice A12 sl c12] 43)
              have HN6 := hide (hn0.fr0 f6)
              have HF6 := hide f6
              have HOut := hide (hs0.1.fr0 f6)
              have HSr := hide (src_rowT w13 A12 sl c12)
              have hz3 := (HF.out.tr f6).size
              have HL6 := hide (HRL.out.fr0 f6)
              have HO136 := hide (HO13.out.fr0 ((Fr.refl No w13).alloc (.cells #[.slice A12 sl c12] 43)))
              clear hown hf HOrd12 hs0 f6 hn0
              go_wp2_with (first
                | (at_builtin; have mk := HF14; clear mk; refine wpList_append_gen _ rfl (.tmp 92) (.tmp 94) 39 39 rfl w11.heap.size 45 iO (.slice none 0 0) 1 24 Tryz.underlying39 hiO hzO hsO hbO rfl u13 (kS + q) _ rfl HOutN.out _ 1 [.slice A13 ol c13] rfl HSrN.out b1 b2 hz4 ?_; intro v15 w15 hown hfr hat; have HO15 := hide hown; have HFc := hide hfr; clear hown hfr hat)
                | (at_builtin; refine wpList_append_gen _ rfl (.tmp 88) (.tmp 90) 23 23 rfl w11.heap.size 43 iT (.slice none 0 0) 1 24 Tryz.underlying23 hiT hzT hsT hbT rfl u12 (kS + q) _ rfl HOut.out _ 1 [.slice A12 sl c12] rfl HSr.out b1 b2 hz3 ?_; intro v14 w14 hown hfr hat; have HO14 := hide hown; have HFb := hide hfr; have HN14 := hide (HN6.out.off hfr (RowS.ofT HOut.out) (by decide) (by decide)); have HO136b := hide (HO136.out.fr hfr (fun g hg hx => HO136.out.apart HOut.out (by decide) g hg hx)); have HF14 : Hid (Fr No w11 w14) := hide ((HF.out.tr HF6.out).own hfr (fun g hg => .inl (HOut.out.lt g hg).1)); have HOutN := hide (HN14.out.1.fr0 ((Fr.refl No w14).alloc (.cells #[.slice A13 ol c13] 45))); have HSrN := hide (src_rowO w14 A13 ol c13); have hz4 := (HF14.out.alloc (.cells #[.slice A13 ol c13] 45)).size; clear hown hfr hat))
              go_roundw
              case rel =>
                have hS14 : RowS w14 w11.heap.size v14 (kS + q + 1) := RowS.step HS0.out HS13.out hsl HSl.out.symm HO12'.out HO14.out HFb.out HF.out.size
                have f15 : Fr No w14 (w14.alloc (.cells #[.slice A13 ol c13] 45)) := (Fr.refl No w14).alloc _
                have hN15 : RowN w15 w11.heap.size v15 (kS + q + 1) := RowN.step HN0.out HN14.out hol HOl.out.symm HO136b.out HO15.out HFc.out (HF.out.tr HF12.out).size
                exact ⟨q + 1, by omega, by go_num, hide ((HF14.out.tr f15).own HFc.out (fun g hg => .inl (HOutN.out.lt g hg).1)), hide (((HL6.out.off HFb.out (RowS.ofT HOut.out) (by decide) (by decide)).fr0 f15).off HFc.out (RowN.ofT HOutN.out) (by decide) (by decide)), hide ((hS14.fr0 f15).off HFc.out (RowN.ofT HOutN.out) (by decide) (by decide)), hide hN15⟩
              case measure => simp [intOf]; omega
            · obtain rfl : q = n1 := by omega
              go_wp2_with (go_at_call 17; refine HLen.out.mono ?_; rintro en w' ⟨rfl, rfl⟩; clear HLen)
              go_roundw
              case rel => exact ⟨t + 1, kL + k, kS + q, by omega, by omega, by omega, by go_num, HF, HRL, HRS, HRN⟩
              case measure => simp [intOf]; omega
    · obtain ⟨AL, cL, rfl, e1, e2, hcl⟩ := HLa.out.apart (by omega)
      have HCl := hide hcl
      unfold maxLen at e1
      clear hcl
      obtain ⟨AS, cS, rfl, e3, e4, _⟩ := HSa.out.apart (by omega)
      unfold maxLen at e3
      obtain ⟨AN, cN, rfl, e5, e6, _⟩ := HNa.out.apart (by omega)
      unfold maxLen at e5
      go_wp2_with (fail)
      refine HCl.out.mono ?_
      rintro en w12 ⟨rfl, hf⟩
      have HF12 := hide hf
      have HS12 := hide (HSa.out.off hf (fun g h => h.2) (by decide) (by decide))
      have HN12 := hide (HNa.out.off hf (fun g h => h.2) (by decide) (by decide))
      obtain ⟨_, _, e, _, _, hcs⟩ := HS12.out.apart (by omega)
      injection e with ea eb ec
      subst ea
      subst ec
      have HCs := hide hcs
      clear hf HCl hcs HSa HNa
      go_wp2_with (fail)
      refine HCs.out.mono ?_
      rintro en w13 ⟨rfl, hf⟩
      have HF13 := hide hf
      have HN13 := hide (HN12.out.off hf (fun g h => h.2) (by decide) (by decide))
      obtain ⟨_, _, e, _, _, hcn⟩ := HN13.out.apart (by omega)
      injection e with ea eb ec
      subst ea
      subst ec
      have HCn := hide hcn
      clear hf HCs hcn HN12
      go_wp2_with (fail)
      refine HCn.out.mono ?_
      rintro en w14 ⟨rfl, hf⟩
      have HF14 : Hid (Fr (fun g => w11.heap.size ≤ g) w11 w14) := hide ((((HFa.out.any _).trans HF12.out (fun g _ h => h.1)).trans HF13.out (fun g _ h => h.1)).trans hf (fun g _ h => h.1))
      have HColM := hide (HCol.out.m.frB HCol.out.m.lt HF14.out (fun g h1 h2 => by omega))
      have HB14 := hide ((HO3.out.fr0 (HF39.out.tr HF911.out)).rd.fr HF14.out (fun g h1 h2 => by omega))
      have HW14 : Hid (Fr No w w14) := hide (HF11.out.trans HF14.out (fun g h1 h2 => by have := HF11.out.size; omega))
      have HZ14 := hide HF14.out.size
      clear hf HCn HN13 HF12 HF13 HLa HFa
      go_wp2_with (fail)
      go_loopw [20, 21] (fun v i wr => ∃ (k : Nat) (vals : List Value), k ≤ n0 ∧ i = .int .i64 (k : Nat) ∧ Hid (Fr No w14 wr) ∧ Hid (Own wr w14.heap.size 41 1 v k vals) ∧ Hid (ValsI wr w14.heap.size vals ((sortV rows).take k))) (fun _ i _ => n0 - (intOf i).toNat)
      case atStart => exact ⟨0, [], by omega, by go_num, hide (Fr.refl _ _), hide (Own.nil _ _ _ _), hide (by rw [List.take_zero]; exact ValsI.nil _ _)⟩
      case round =>
        obtain ⟨wo, rfl⟩ : ∃ wo : World, wo = wr := ⟨_, rfl⟩
        obtain ⟨k, vals, hk, rfl, HF, HO, HV⟩ := hrel
        have HCo := hide ((HColM.out.fr0 HF.out).at (Nat.le_trans HZ14.out HF.out.size))
        have HLen := hide (numLen_any HCo.out)
        by_cases hlt : k < n0
        · have hk1 : k < rows.length := by rw [HL.out]; exact hlt
          have hli64 : (rows.getD k []).length ≤ 64 := HOk2.out.2 _ (by rw [List.getD, List.getElem?_eq_getElem hk1]; exact List.getElem_mem hk1)
          have hrow : rowV bits lens all k = sortI (rows.getD k []) := by rw [rowsV_at HRv.out hlt, sortV_at hk1]
          have HT := hide (sortV_takeB hk1)
          have HRow := hide (numRow_in HCo.out hlt (by omega) (by rw [hrow, sortI_len]; exact hli64))
          rw [hrow] at HRow
          rw [← sortI_len] at hli64
          obtain ⟨sr, hsr⟩ : ∃ x, x = sortI (rows.getD k []) := ⟨_, rfl⟩
          rw [← hsr] at HT HRow hli64
          obtain ⟨li, hli⟩ : ∃ x, x = sr.length := ⟨_, rfl⟩
          rw [← hli] at hli64
          have HLi := hide hli
          have b1 : (k + 1) * 24 ≤ 140737488355328 := by omega
          have b2 : k + 1 ≤ maxLen := by unfold maxLen; omega
          clear hk1 hrow hsr hli
          go_wp2_with (first
            | (go_at_call 15; refine HLen.out.mono ?_; rintro en w' ⟨rfl, rfl⟩; clear HLen)
            | (go_at_call 16; refine HRow.out.mono ?_; rintro en w5 ⟨v5, rfl, hown, hfr⟩; rw [← HLi.out] at hown; obtain ⟨A5, c5, rfl, p1, p2, -⟩ := hown.form; have HO5 := hide (hown.fr0 ((Fr.refl No w5).alloc (.cells #[.slice A5 li c5] 41))); have HF5 := hide ((HF.out.tr hfr).alloc (.cells #[.slice A5 li c5] 41)); have HV5 := hide ((HV.out.fr0 hfr).fr0 ((Fr.refl No w5).alloc (.cells #[.slice A5 li c5] 41))); have HOut := hide ((HO.out.fr0 hfr).fr0 ((Fr.refl No w5).alloc (.cells #[.slice A5 li c5] 41))); have HSr := hide (src_row w5 A5 li c5); have hz3 := HF5.out.size; unfold maxLen at p2; clear hown hfr HRow)
            | (at_builtin; refine wpList_append_gen _ rfl (.tmp 118) (.tmp 120) 22 22 rfl w14.heap.size 41 iR (.slice none 0 0) 1 24 Tryz.underlying22 hiR hzR hsR hbR rfl u20 k _ rfl HOut.out _ 1 [.slice A5 li c5] rfl HSr.out b1 b2 hz3 ?_; intro v7 w7 hown hfr hat; have HO7 := hide hown; have HFa := hide hfr; clear hown hfr hat))
          go_roundw
          case rel =>
            have HR7 := hide (HO5.out.fr HFa.out (fun i hi e => HO5.out.apart HOut.out (by decide) i hi e))
            refine ⟨k + 1, _, by omega, by go_num, hide (HF5.out.own HFa.out (fun g hg => .inl (HOut.out.lt g hg).1)), HO7, hide ?_⟩
            rw [HT.out]
            have h9 := HR7.out
            rw [HLi.out] at h9 ⊢
            exact ValsI.snoc HV.out (HV5.out.other HOut.out (by decide) HFa.out) h9 HF.out.size
          case measure => simp [intOf]; omega
        · obtain rfl : k = n0 := by omega
          have htk : (sortV rows).take k = sortV rows := List.take_of_length_le (by rw [sortV_len, HL.out]; exact Nat.le_refl _)
          rw [htk] at HV
          obtain ⟨A8, c8, rfl, p1, p2, -⟩ := HO.out.form
          have HNu := hide (numbers_any A8 k c8 wo.heap.size (sortV rows) wo (by rw [sortV_len, HL.out]) (sortV_in HI.out) p1 p2 (Nat.le_refl _) (HV.out.isl HO.out.rd))
          rw [keptV_sort rows HOk2.out, ← HBs.out] at HNu
          unfold maxLen at p2
          clear htk HO HV
          go_wp2_with (go_at_call 15; refine HLen.out.mono ?_; rintro en w' ⟨rfl, rfl⟩; clear HLen)
          refine HNu.out.mono ?_
          rintro en w15 ⟨v15, rfl, hown, hfr⟩
          rw [← HM.out] at hown
          obtain ⟨A15, c15, rfl, g1, g2, -⟩ := hown.form
          have HF15 := hide (HF.out.tr hfr)
          have HKb := hide (kbytes_any A15 A3 m c15 m c3 w15.heap.size _ bs bs w15 HM.out.symm HM.out.symm g1 g2 HQ3.out.1 HQ3.out.2 hown.rd (HB14.out.fr0 HF15.out))
          rw [decide_eq_true rfl] at HKb
          unfold maxLen at g2
          clear hown hfr
          go_wp2_with (fail)
          refine HKb.out.mono ?_
          rintro en w16 ⟨rfl, nq, hw⟩
          have HF16 : Hid (Fr No w w16) := hide ((HW14.out.tr HF15.out).tr (by rw [hw]; exact (Fr.refl No w15).drewN nq))
          clear hw
          go_wp2_with (fail)
          go_ret
          exact ⟨rfl, HF16.out⟩
end Go.Proofs.YtnjcncidlhllmaaGreat
