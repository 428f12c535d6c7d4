/- ValuesBack, walked. -/
import Derived.Test.YtnjcncidlhllmaaGreatK15
namespace Go.Proofs.YtnjcncidlhllmaaGreat
set_option linter.unusedVariables false
set_option linter.unusedSimpArgs false
open Go.RowKit

set_option maxRecDepth 100000 in
set_option maxHeartbeats 8000000 in
theorem valuesBack_any (A0 A1 : Option Addr) (n0 c0 n1 c1 : Nat) (rows : Rw) (rt : RwT) (w : World)
    (h0 : rows.length = n0) (x0 : n0 ≤ c0) (y0 : c0 ≤ maxLen) (z0 : c0 * 24 ≤ 140737488351232) (r0 : ISl w w.heap.size A0 rows) (b0 : ∀ l ∈ rows, l.length * 8 ≤ 140737488351232) (i0 : ∀ l ∈ rows, InI l)
    (h1 : rt.length = n1) (x1 : n1 ≤ c1) (y1 : c1 ≤ maxLen) (z1 : c1 * 24 ≤ 140737488351232) (r1 : TSl w w.heap.size A1 rt) (b1 : ∀ l ∈ rt, l.length * 16 ≤ 140737488351232) :
    Calls Tryz.prog 6 #[.slice A0 n0 c0, .slice A1 n1 c1] w (RetB true w) := by
  obtain ⟨iR, hiR, hzR, hsR, hbR⟩ := info_parts Tryz.infoRI
  obtain ⟨iT, hiT, hzT, hsT, hbT⟩ := info_parts Tryz.infoRT
  have HL := hide h0
  have HL1 := hide h1
  have HI := hide i0
  have HR0 := hide r0
  have HC := hide (And.intro x0 y0)
  have HC1 := hide (And.intro x1 y1)
  have HLn := hide (fun W (f : Fr No w W) => lentRows_any A0 n0 c0 W.heap.size rows W h0 x0 y0 (by omega) (fun l hl => by have := b0 l hl; omega) (Nat.le_refl _) ((r0.fr0 f).more f.size))
  have HLt := hide (fun W (f : Fr No w W) => texts_any A1 n1 c1 W.heap.size rt W h1 x1 y1 (by omega) (fun l hl => by have := b1 l hl; omega) (Nat.le_refl _) ((r1.fr0 f).more f.size))
  unfold maxLen at y0 y1
  clear h0 h1 i0 r0 r1 b0 b1
  go_enter Tryz.func6, Tryz.ntmps6
  go_wp2_with (fail)
  refine (known12_any w).mono ?_
  rintro en w1 ⟨rfl, hf⟩
  have HF1 := hide hf
  clear hf
  go_wp2_with (fail)
  refine (HLn.out w1 HF1.out).mono ?_
  rintro en w2 ⟨A2, c2, rfl, j1, j2, hlr, hf⟩
  have HF2 := hide (HF1.out.tr hf)
  have HNu := hide (numbers_any A2 n0 c2 w2.heap.size rows w2 HL.out HI.out (by omega) j2 (Nat.le_refl _) hlr.isl)
  unfold maxLen at j2
  clear hf hlr HLn
  go_wp2_with (fail)
  refine HNu.out.mono ?_
  rintro en w3 ⟨v3, rfl, hob, hf⟩
  obtain ⟨bs, hbs⟩ : ∃ x, x = keptV rows := ⟨_, rfl⟩
  obtain ⟨m, hm⟩ : ∃ x, x = bs.length := ⟨_, rfl⟩
  rw [← hbs, ← hm] at hob
  obtain ⟨A3, c3, rfl, q1, q2, _⟩ := hob.form
  have HO3 := hide hob
  have HF3 := hide (HF2.out.tr hf)
  have HQ3 := hide (And.intro q1 q2)
  have hmb : m ≤ 140737488300000 := by
    rw [hm, hbs]
    unfold keptV
    split
    · rename_i h
      have := formV_leT (sortV_ok h) (sortV_in HI.out)
      omega
    · simp
  have HOk : Hid (0 < m → okV rows) := hide (fun h => keptV_ne.1 (fun e => by rw [hm, hbs, e] at h; simp at h))
  have HBs := hide hbs
  have HM := hide hm
  unfold maxLen at q2
  clear hf hob hbs hm HNu
  go_upto_if 28 with (fail)
  refine wp_named fun K hK => ?_
  go_cut [6, 7, 8, 9, 10, 11] from 26 to 93 (fun v6 v7 v8 v9 v10 v11 wx => Hid (Fr No w wx))
  case first =>
    by_cases hm0 : 0 < m
    · have d0 : decide (0 < m) = true := decide_eq_true hm0
      have d1 : decide ((0 : Int) < (m : Int)) = true := decide_eq_true (by omega)
      have hok := HOk.out hm0
      have hn16 : n0 ≤ 16384 := by rw [← HL.out]; exact hok.1
      have HOn := hide (openNumbers_any A3 m c3 w3.heap.size bs w3 HM.out.symm HQ3.out.1 HQ3.out.2 (by omega) (Nat.le_refl _) HO3.out.rd)
      have HFm : Hid (FormV bs (sortV rows)) := hide (by rw [HBs.out]; exact keptV_form hok HI.out)
      have HOk2 := hide hok
      clear hok HOk
      go_wp2_with (fail)
      refine HOn.out.mono ?_
      rintro en w4 ⟨hf, hcase⟩
      obtain ⟨G, bits, lens, all, rfl, hcol, hrv⟩ : ∃ G bits lens all, en = .returned (.tuple #[.pointer (some ⟨G, 0, none⟩), .int .i64 0]) ∧ ColO w4 w3.heap.size G bits lens all n0 ∧ rowsV bits lens all n0 = sortV rows := by
        rcases hcase with ⟨hno, _⟩ | ⟨rs, hrs, G, bits, lens, all, he, hc, hr⟩
        · exact absurd ⟨_, HFm.out⟩ hno
        · have e : rs = sortV rows := by rw [← hrs.rd, HFm.out.rd]
          subst e
          rw [sortV_len, HL.out] at hc hr
          exact ⟨G, bits, lens, all, he, hc, hr⟩
      have HF34 := hide hf
      have HF4 := hide (HF3.out.tr hf)
      have HCol := hide hcol
      have HRv := hide hrv
      have HLen := hide (numLen_any hcol.m)
      have hnn : ((n0 : Int) != n0) = false := by simp
      clear hf hcase hcol hrv HOn
      go_wp2_with (go_at_call 15; refine HLen.out.mono ?_; rintro en w' ⟨rfl, rfl⟩)
      clear hnn HLen
      go_loopw [8, 9] (fun v i wr => ∃ (k : Nat) (vals : List Value), k ≤ n0 ∧ i = .int .i64 (k : Nat) ∧ Hid (Fr No w4 wr) ∧ Hid (Own wr w4.heap.size 41 1 v k vals) ∧ Hid (ValsI wr w4.heap.size vals ((sortV rows).take k))) (fun _ i _ => n0 - (intOf i).toNat)
      case atStart => exact ⟨0, [], by omega, by go_num, hide (Fr.refl _ _), hide (Own.nil _ _ _ _), hide (by rw [List.take_zero]; exact ValsI.nil _ _)⟩
      case round =>
        obtain ⟨wo, rfl⟩ : ∃ wo : World, wo = wr := ⟨_, rfl⟩
        obtain ⟨k, vals, hk, rfl, HF, HO, HV⟩ := hrel
        have HLen := hide (numLen_any (HCol.out.fr0 HF.out).m)
        by_cases hlt : k < n0
        · have hk1 : k < rows.length := by rw [HL.out]; exact hlt
          have HFw : Hid (Fr No w wo) := hide (HF4.out.tr HF.out)
          obtain ⟨ad, Ai, ci, hA0, hadb, hcell0, hc1, hc2, hrd⟩ := HR0.out.at hk1
          subst hA0
          have hli64 : (rows.getD k []).length ≤ 64 := HOk2.out.2 _ (by rw [List.getD, List.getElem?_eq_getElem hk1]; exact List.getElem_mem hk1)
          have hrow : rowV bits lens all k = sortI (rows.getD k []) := by rw [rowsV_at HRv.out hlt, sortV_at hk1]
          have HT := hide (sortV_takeB hk1)
          have HRow := hide (numRow_in (HCol.out.fr0 HF.out).m hlt hn16 (by rw [hrow, sortI_len]; exact hli64))
          rw [hrow] at HRow
          obtain ⟨row, hrw⟩ : ∃ x, x = rows.getD k [] := ⟨_, rfl⟩
          rw [← hrw] at hcell0 hc1 hrd hli64 HT HRow
          have hsl := sortI_len row
          have HPm := hide (sortI_perm row)
          have HUp := hide (sortI_up row)
          obtain ⟨sr, hsr⟩ : ∃ x, x = sortI row := ⟨_, rfl⟩
          rw [← hsr] at HT HRow hsl HPm HUp
          obtain ⟨li, hli⟩ : ∃ x, x = row.length := ⟨_, rfl⟩
          rw [← hli] at hcell0 hc1 hli64 hsl
          have HLi := hide hli
          have HSl := hide hsl
          have HRd := hide hrd
          have HC0 := hide hcell0
          unfold maxLen at hc2
          have hlI : ((li : Int) != li) = false := by simp
          have b1 : (k + 1) * 24 ≤ 140737488355328 := by omega
          have b2 : k + 1 ≤ maxLen := by unfold maxLen; omega
          clear hk1 hadb hcell0 hrd hrow hrw hsl hsr hli
          go_wp2_with (first
            | (go_at_call 15; refine HLen.out.mono ?_; rintro en w' ⟨rfl, rfl⟩; clear HLen)
            | (go_at_call 16; refine HRow.out.mono ?_; rintro en w5 ⟨v5, rfl, hown, hfr⟩; rw [HSl.out] at hown; obtain ⟨A5, c5, rfl, p1, p2, -⟩ := hown.form; have HO5 := hide (hown.fr0 ((Fr.refl No w5).alloc (.cells #[.slice A5 li c5] 41))); have HF5 := hide ((HF.out.tr hfr).alloc (.cells #[.slice A5 li c5] 41)); have HV5 := hide ((HV.out.fr0 hfr).fr0 ((Fr.refl No w5).alloc (.cells #[.slice A5 li c5] 41))); have HOut := hide ((HO.out.fr0 hfr).fr0 ((Fr.refl No w5).alloc (.cells #[.slice A5 li c5] 41))); have HSr := hide (src_row w5 A5 li c5); have hz3 := HF5.out.size; have HP5 := hide (And.intro p1 p2); unfold maxLen at p2; clear hown hfr HRow)
            | (at_builtin; refine wpList_append_gen _ rfl (.tmp 52) (.tmp 54) 22 22 rfl w4.heap.size 41 iR (.slice none 0 0) 1 24 Tryz.underlying22 hiR hzR hsR hbR rfl u8 k _ rfl HOut.out _ 1 [.slice A5 li c5] rfl HSr.out b1 b2 hz3 ?_; intro v7 w7 hown hfr hat; have HO7 := hide hown; have HFa := hide hfr; clear hown hfr hat))
          have HR7 := hide (HO5.out.fr HFa.out (fun i hi e => HO5.out.apart HOut.out (by decide) i hi e))
          have HF7 : Hid (Fr No w4 w7) := hide (HF5.out.own HFa.out (fun g hg => .inl (HOut.out.lt g hg).1))
          have HV7 : Hid (ValsI w7 w4.heap.size (vals ++ [.slice A5 li c5]) ((sortV rows).take (k + 1))) := hide (by
            rw [HT.out]
            have h9 := HR7.out
            rw [← HSl.out] at h9 ⊢
            exact ValsI.snoc HV.out (HV5.out.other HOut.out (by decide) HFa.out) h9 HF.out.size)
          have hcell : w7.cell? (ad.add k) = some (.slice Ai li ci) := (HF4.out.tr HF7.out).cell HC0.out (fun h => h)
          have HFw7 : Hid (Fr No w w7) := hide (HF4.out.tr HF7.out)
          clear HFa HV5 HOut HSr hz3 b1 b2 HV HO HO5 HF5
          go_loopw [11] (fun i wq => ∃ (q nq : Nat), 1 ≤ q ∧ i = .int .i64 (q : Nat) ∧ (q ≤ li ∨ q = 1) ∧ wq = w7.drewN nq) (fun i _ => li - (intOf i).toNat)
          case atStart => exact ⟨1, 0, by omega, by go_num, by omega, rfl⟩
          case round =>
            obtain ⟨q, nq, hq1, rfl, hq2, rfl⟩ := hrel
            by_cases hlq : q < li
            · have hql : q < sr.length := by rw [HSl.out]; exact hlq
              have hle := upI_at HUp.out hq1 hql
              obtain ⟨ad8, hA8, _, hc8⟩ := HR7.out.rd.intAt (j := q - 1) (by omega)
              obtain ⟨ad9, hA9, _, hc9⟩ := HR7.out.rd.intAt hql
              rw [hA8] at hA9
              injection hA9 with hA9
              subst hA9
              subst hA8
              generalize sr.getD (q - 1) 0 = x at hc8 hle
              generalize sr.getD q 0 = y at hc9 hle
              have d3 : decide (y < x) = false := decide_eq_false (by omega)
              clear hql hle
              go_wp2
              go_quiet (fail)
              go_wp2
              go_roundw
              case rel => exact ⟨q + 1, _, by omega, by go_num, by omega, rfl⟩
              case measure => simp [intOf]; omega
            · have HHo := hide (holds_any A5 Ai li c5 ci w7.heap.size w.heap.size sr row (w7.drewN nq) HSl.out HLi.out.symm hli64 HPm.out HP5.out.1 hc1 (HR7.out.rd.fr0 ((Fr.refl No w7).drewN nq)) (HRd.out.fr0 (HFw7.out.drewN nq)))
              go_wp2_with (go_at_call 33; refine HHo.out.mono ?_; rintro en w8 ⟨rfl, nq8, hw8⟩; have HF8 : Hid (Fr No w7 w8) := hide (by rw [hw8]; exact ((Fr.refl No w7).drewN nq).drewN nq8); clear hw8)
              go_roundw
              case rel => exact ⟨k + 1, _, by omega, by go_num, hide (HF7.out.tr HF8.out), hide (HO7.out.fr0 HF8.out), hide (HV7.out.fr0 HF8.out)⟩
              case measure => simp [intOf]; omega
        · obtain rfl : k = n0 := by omega
          have htk : (sortV rows).take k = sortV rows := List.take_of_length_le (by rw [sortV_len, HL.out]; exact Nat.le_refl _)
          rw [htk] at HV
          obtain ⟨A8, c8, rfl, p1, p2, -⟩ := HO.out.form
          have HNu := hide (numbers_any A8 k c8 wo.heap.size (sortV rows) wo (by rw [sortV_len, HL.out]) (sortV_in HI.out) p1 p2 (Nat.le_refl _) (HV.out.isl HO.out.rd))
          rw [keptV_sort rows HOk2.out, ← HBs.out] at HNu
          have HF3o := hide (HF34.out.tr HF.out)
          unfold maxLen at p2
          clear htk HO HV
          go_wp2_with (go_at_call 15; refine HLen.out.mono ?_; rintro en w' ⟨rfl, rfl⟩; clear HLen)
          refine HNu.out.mono ?_
          rintro en w9 ⟨v9, rfl, hown, hfr⟩
          rw [← HM.out] at hown
          obtain ⟨A9, c9, rfl, g1, g2, -⟩ := hown.form
          have HF9 := hide (HF3o.out.tr hfr)
          have HKb := hide (kbytes_any A9 A3 m c9 m c3 w9.heap.size w9.heap.size bs bs w9 HM.out.symm HM.out.symm g1 g2 HQ3.out.1 HQ3.out.2 hown.rd (HO3.out.fr0 HF9.out).rd)
          rw [decide_eq_true rfl] at HKb
          unfold maxLen at g2
          clear hown hfr
          go_wp2_with (fail)
          refine HKb.out.mono ?_
          rintro en w10 ⟨rfl, nq, hw⟩
          have HF10 : Hid (Fr No w w10) := hide ((HF3.out.tr HF9.out).tr (by rw [hw]; exact (Fr.refl No w9).drewN nq))
          clear hw
          go_wp2_with (fail)
          go_meet
          exact HF10
    · obtain rfl : m = 0 := by omega
      go_wp2
      go_meet
      exact HF3
  case rest =>
    refine hK _ _ ?_
    obtain ⟨w4, rfl⟩ : ∃ W : World, W = wc := ⟨_, rfl⟩
    have HF4 := hcut
    clear hK K HOk HO3 HF3 hcut HQ3
    go_wp2_with (fail)
    refine (HLt.out w4 HF4.out).mono ?_
    rintro en w5 ⟨A5, c5, rfl, j3, j4, hlr, hf⟩
    have HF5 := hide (HF4.out.tr hf)
    have HTx := hide (texts12_any A5 n1 c5 w5.heap.size rt w5 HL1.out j3 j4 (Nat.le_refl _) hlr.tsl)
    unfold maxLen at j4
    clear hf hlr HLt
    go_wp2_with (fail)
    refine HTx.out.mono ?_
    rintro en w9 ⟨v9, rfl, hob, hf⟩
    obtain ⟨cs, hcs⟩ : ∃ x, x = keptT rt := ⟨_, rfl⟩
    obtain ⟨mt, hmt⟩ : ∃ x, x = cs.length := ⟨_, rfl⟩
    rw [← hcs, ← hmt] at hob
    obtain ⟨A9, c9, rfl, q3, q4, _⟩ := hob.form
    have HO9 := hide hob
    have HQ9 := hide (And.intro q3 q4)
    have HF9 := hide (HF5.out.tr hf)
    have hmtb : mt ≤ 400000000 := by rw [hmt, hcs]; exact keptT_len rt
    have HCs := hide hcs
    have HMt := hide hmt
    have HOkT : Hid (mt ≠ 0 → okT rt) := hide (fun h => keptT_ne.1 (fun e => by rw [hmt, hcs, e] at h; simp at h))
    have HOn := hide (openTexts_any A9 mt c9 w9.heap.size cs w9 hmt.symm q3 q4 (by omega) (Nat.le_refl _) hob.rd)
    unfold maxLen at q4
    clear hf hob hcs hmt HTx
    by_cases hmt0 : mt = 0
    · subst hmt0
      go_wp2_with (fail)
      go_ret
      exact ⟨rfl, HF9.out⟩
    have hmI : ((mt : Int) == 0) = false := by simpa using hmt0
    have hok : okT rt := HOkT.out hmt0
    have hop := opened_texts hok HCs.out
    have hn16 : n1 ≤ 16384 := by rw [← HL1.out]; exact hok.1.1
    have HOk := hide hok
    have HOp := hide hop
    clear hok hmt0 hop HOkT
    go_wp2_with (fail)
    refine HOn.out.mono ?_
    rintro en w10 ⟨hf, hcase⟩
    obtain ⟨G, bits, lens, all, rfl, hcol, hrv⟩ : ∃ G bits lens all, en = .returned (.tuple #[.pointer (some ⟨G, 0, none⟩), .int .i64 0]) ∧ ColT w10 w9.heap.size G bits lens all n1 (termsV rt) ∧ rowsV bits lens all n1 = ordsR rt := by
      rcases hcase with ⟨hno, _⟩ | ⟨_, G, bits, lens, all, he, hc, hr⟩
      · exact absurd HOp.out.1 hno
      · rw [HOp.out.2.1, HOp.out.2.2.1, HL1.out] at hc
        rw [HOp.out.2.2.1, HOp.out.2.2.2, HL1.out] at hr
        exact ⟨G, bits, lens, all, he, hc, hr⟩
    have HF910 := hide hf
    have HF10 := hide (HF9.out.tr hf)
    have HRv := hide hrv
    have hsub : ∀ l ∈ rt, ∀ t ∈ l, t ∈ termsV rt := fun l hl t ht => (termsV_mem rt t).2 ⟨l, hl, ht⟩
    have htl := termsV_le HOk.out.1
    have hlt' := termsV_lt rt
    have hat : ∀ k, k < rt.length → (ordsR rt).getD k [] = ordsV (termsV rt) (rt.getD k []) := fun k hk => ordsR_at hk
    obtain ⟨ts, hts⟩ : ∃ x, x = termsV rt := ⟨_, rfl⟩
    obtain ⟨tk, htk⟩ : ∃ x, x = ts.length := ⟨_, rfl⟩
    rw [← hts] at hcol hsub htl hlt' hat
    rw [← htk] at htl
    have HCol := hide hcol
    have HSub := hide hsub
    have HLtT := hide hlt'
    have HAt := hide hat
    have HTk := hide htk
    have HLen := hide (txLen_any hcol)
    have hnn : ((n1 : Int) != n1) = false := by simp
    clear hf hcase hcol hrv HOn hsub hlt' hat hts htk HOp
    go_wp2_with (go_at_call 17; refine HLen.out.mono ?_; rintro en w' ⟨rfl, rfl⟩)
    clear hnn HLen
    go_loopw [15, 16] (fun v i wr => ∃ (k : Nat) (vals : List Value), k ≤ n1 ∧ i = .int .i64 (k : Nat) ∧ Hid (Fr No w10 wr) ∧ Hid (Own wr w10.heap.size 43 1 v k vals) ∧ Hid (ValsT wr w10.heap.size vals ((rt.map setT).take k))) (fun _ i _ => n1 - (intOf i).toNat)
    case atStart => exact ⟨0, [], by omega, by go_num, hide (Fr.refl _ _), hide (Own.nil _ _ _ _), hide (by rw [List.take_zero]; exact ValsT.nil _ _)⟩
    case round =>
      obtain ⟨wo, rfl⟩ : ∃ wo : World, wo = wr := ⟨_, rfl⟩
      obtain ⟨k, vals, hk, rfl, HF, HO, HV⟩ := hrel
      have HLen := hide (txLen_any (HCol.out.fr0 HF.out))
      by_cases hlt : k < n1
      · have hk1 : k < rt.length := by rw [HL1.out]; exact hlt
        have hmem := getD_memR hk1
        have hli64 := HOk.out.1.2 _ hmem
        have hsb := HSub.out _ hmem
        have hrow : rowV bits lens all k = ordsV ts (rt.getD k []) := by rw [rowsV_at HRv.out hlt, HAt.out k hk1]
        have HT := hide (sets_take hk1)
        obtain ⟨row, hrw⟩ : ∃ x, x = rt.getD k [] := ⟨_, rfl⟩
        rw [← hrw] at hli64 hsb hrow HT
        have hpk : pickT ts (rowV bits lens all k) = setT row := by rw [hrow]; exact pickT_ords HLtT.out hsb
        have hsl := setT_le row
        have hrl : (rowV bits lens all k).length ≤ 64 := by rw [hrow, ordsV_len]; omega
        have hrg : ∀ x ∈ rowV bits lens all k, 0 ≤ x ∧ x < (ts.length : Int) := fun x hx => by
          rw [hrow] at hx
          obtain ⟨s, hs, rfl⟩ := List.mem_map.1 hx
          have := (ordT_mem HLtT.out (hsb s ((setT_mem row s).1 hs))).1
          omega
        have HRw := hide (txRow_in (HCol.out.fr0 HF.out) hlt hn16 hrl hrg)
        have HOi := hide (fun W (f : Fr No wo W) => ords_in (HCol.out.fr0 (HF.out.tr f)) hlt hn16 hrl)
        rw [hrow] at HOi
        rw [hpk] at HRw
        have hsm : ∀ t ∈ setT row, t ∈ ts := fun t ht => hsb t ((setT_mem row t).1 ht)
        have hov : ∀ q, q < (setT row).length → (ordsV ts row).getD q 0 = ((ordT ts ((setT row).getD q []) : Nat) : Int) := fun q hq => ordsV_at hq
        have hol := ordsV_len ts row
        have hslt := setT_lt row
        obtain ⟨ov, hov2⟩ : ∃ x, x = ordsV ts row := ⟨_, rfl⟩
        obtain ⟨st, hst⟩ : ∃ x, x = setT row := ⟨_, rfl⟩
        obtain ⟨sl, hsl2⟩ : ∃ x, x = st.length := ⟨_, rfl⟩
        rw [← hov2] at HOi hov hol
        rw [← hst] at HRw hsl hsm hov hol hslt HT
        rw [← hsl2] at hsl hov hol
        have HSl := hide hsl2
        have HOl := hide hol
        have HOv := hide hov
        have HSm := hide hsm
        have HSlt := hide hslt
        have hsl64 : sl ≤ 64 := by omega
        have hlI : ((sl : Int) != sl) = false := by simp
        have b1 : (k + 1) * 24 ≤ 140737488355328 := by omega
        have b2 : k + 1 ≤ maxLen := by unfold maxLen; omega
        clear hk1 hmem hsb hrow hrw hpk hrl hrg hov2 hst hsl2 hov hol hsm hslt hsl hli64
        go_wp2_with (go_at_call 17; refine HLen.out.mono ?_; rintro en w' ⟨rfl, rfl⟩; clear HLen)
        refine HRw.out.mono ?_
        rintro en w11 ⟨v11, rfl, hown, hf⟩
        rw [← HSl.out] at hown
        obtain ⟨A11, c11, rfl, p1, p2, -⟩ := hown.form
        have HO11 := hide hown
        have HF11 := hide hf
        have HOi11 := hide (HOi.out w11 hf)
        unfold maxLen at p2
        clear hown hf HRw HOi
        go_wp2_with (fail)
        refine HOi11.out.mono ?_
        rintro en w12 ⟨v12, rfl, hown, hf⟩
        rw [HOl.out] at hown
        obtain ⟨A12, c12, rfl, p3, p4, -⟩ := hown.form
        have fal : Fr No w12 (w12.alloc (.cells #[.slice A11 sl c11] 43)) := (Fr.refl No w12).alloc _
        have HO12 := hide (hown.fr0 fal)
        have HO11' := hide ((HO11.out.fr0 hf).fr0 fal)
        have HF12 := hide (((HF.out.tr HF11.out).tr hf).tr fal)
        have HV12 := hide (HV.out.fr0 ((HF11.out.tr hf).tr fal))
        have HOut := hide (HO.out.fr0 ((HF11.out.tr hf).tr fal))
        have HSr := hide (src_rowT w12 A11 sl c11)
        have hz3 := HF12.out.size
        unfold maxLen at p4
        clear hown hf fal HOi11 HO11
        go_wp2_with (at_builtin; refine wpList_append_gen _ rfl (.tmp 126) (.tmp 128) 23 23 rfl w10.heap.size 43 iT (.slice none 0 0) 1 24 Tryz.underlying23 hiT hzT hsT hbT rfl u15 k _ rfl HOut.out _ 1 [.slice A11 sl c11] rfl HSr.out b1 b2 hz3 ?_; intro v13 w13 hown hfr hat; have HO13 := hide hown; have HFa := hide hfr; clear hown hfr hat)
        have HS13 := hide (HO11'.out.fr HFa.out (fun i hi e => HO11'.out.apart HOut.out (by decide) i hi e))
        have HI13 := hide (HO12.out.fr HFa.out (fun i hi e => HO12.out.apart HOut.out (by decide) i hi e))
        have HF13 : Hid (Fr No w10 w13) := hide (HF12.out.own HFa.out (fun g hg => .inl (HOut.out.lt g hg).1))
        have HV13 : Hid (ValsT w13 w10.heap.size (vals ++ [.slice A11 sl c11]) ((rt.map setT).take (k + 1))) := hide (by
          rw [HT.out]
          have h9 := HS13.out
          rw [HSl.out] at h9 ⊢
          exact ValsT.snoc HV.out (HV12.out.other HOut.out (by decide) HFa.out) h9 HF.out.size)
        clear HFa HV12 HOut HSr hz3 b1 b2 HV HO HO11' HO12 HF12
        go_loopw [19] (fun i wq => ∃ (q nq : Nat), q ≤ sl ∧ i = .int .i64 (q : Nat) ∧ wq = w13.drewN nq) (fun i _ => sl - (intOf i).toNat)
        case atStart => exact ⟨0, 0, by omega, by go_num, rfl⟩
        case round =>
          obtain ⟨q, nq, hq, rfl, rfl⟩ := hrel
          by_cases hlq : q < sl
          · have hql : q < st.length := by rw [← HSl.out]; exact hlq
            have hqo : q < ov.length := by rw [HOl.out]; exact hlq
            obtain ⟨ad1, hA1, _, hc1⟩ := HS13.out.rd q _ (svs_get hql)
            obtain ⟨ad2, hA2, _, hc2⟩ := HI13.out.rd.intAt hqo
            rw [HOv.out q hlq] at hc2
            have hmq : st.getD q [] ∈ ts := HSm.out _ (getD_mem hql)
            obtain ⟨ho1, ho2⟩ := ordT_mem HLtT.out hmq
            have HTm := hide (fun n => (term_in (HCol.out.fr0 (HF13.out.tr ((Fr.refl No w13).drewN (nq + n)))) ho1).mono (fun en w' h => (⟨h.1, n, h.2.symm⟩ : _ ∧ ∃ n, w' = w13.drewN (nq + n))))
            rw [ho2] at HTm
            have hbp : 0 < q → Op.bytesLess (ByteArray.mk (st.getD (q - 1) []).toArray).toList (ByteArray.mk (st.getD q []).toArray).toList = true := fun h => by
              rw [tx_list, tx_list, bytesLess_eq]
              exact decide_eq_true (ltT_at HSlt.out h hql)
            have hop : 0 < q → ordT ts (st.getD (q - 1) []) < ordT ts (st.getD q []) := fun h => ordT_lt HLtT.out (HSm.out _ (getD_mem (by omega))) hmq (ltT_at HSlt.out h hql)
            have hcp1 : 0 < q → w13.cell? (ad1.add (q - 1)) = some (sv (st.getD (q - 1) [])) := fun h => by
              obtain ⟨ad', e, _, hc⟩ := HS13.out.rd (q - 1) _ (svs_get (by omega))
              rw [hA1] at e; injection e with e; subst e; exact hc
            have hcp2 : 0 < q → w13.cell? (ad2.add (q - 1)) = some (.int .i64 ((ordT ts (st.getD (q - 1) []) : Nat) : Int)) := fun h => by
              obtain ⟨ad', e, _, hc⟩ := HI13.out.rd.intAt (j := q - 1) (by omega)
              rw [HOv.out (q - 1) (by omega)] at hc
              rw [hA2] at e; injection e with e; subst e; exact hc
            subst hA1
            subst hA2
            unfold sv at hc1 hcp1 HTm
            generalize ordT ts (st.getD q []) = o at hc2 hop HTm
            generalize ByteArray.mk (st.getD q []).toArray = X at hc1 HTm hbp
            have e1 : (X.toList == X.toList) = true := by simp
            have e2 : (X.toList != X.toList) = false := by simp
            by_cases hq0 : 0 < q
            · have hbq := hbp hq0
              have hoq := hop hq0
              have hk1 := hcp1 hq0
              have hk2 := hcp2 hq0
              generalize ordT ts (st.getD (q - 1) []) = o' at hk2 hoq
              generalize ByteArray.mk (st.getD (q - 1) []).toArray = Y at hk1 hbq
              have d1 : decide ((0 : Int) < (q : Int)) = true := decide_eq_true (by omega)
              have d2 : decide (0 < q) = true := decide_eq_true hq0
              have d3 : decide ((o : Int) ≤ (o' : Int)) = false := decide_eq_false (by omega)
              have d4 : decide (o ≤ o') = false := decide_eq_false (by omega)
              clear hql hqo hmq ho1 ho2 hbp hop hcp1 hcp2 hoq
              go_wp2
              go_quiet ((go_at_call 27; exact HTm.out _))
              go_wp2
              go_roundw
              case rel => exact ⟨q + 1, _, by omega, by go_num, rfl⟩
              case measure => simp [intOf]; omega
            · have d1 : decide ((0 : Int) < (q : Int)) = false := decide_eq_false (by omega)
              have d2 : decide (0 < q) = false := decide_eq_false hq0
              clear hql hqo hmq ho1 ho2 hbp hop hcp1 hcp2
              go_wp2
              go_quiet ((go_at_call 27; exact HTm.out _))
              go_wp2
              go_roundw
              case rel => exact ⟨q + 1, _, by omega, by go_num, rfl⟩
              case measure => simp [intOf]; omega
          · obtain rfl : q = sl := by omega
            go_wp2
            go_roundw
            case rel => exact ⟨k + 1, _, by omega, by go_num, hide (HF13.out.drewN nq), hide (HO13.out.fr0 ((Fr.refl No w13).drewN nq)), hide (HV13.out.fr0 ((Fr.refl No w13).drewN nq))⟩
            case measure => simp [intOf]; omega
      · obtain rfl : k = n1 := by omega
        have htk : (rt.map setT).take k = rt.map setT := List.take_of_length_le (by rw [List.length_map, HL1.out]; exact Nat.le_refl _)
        rw [htk] at HV
        obtain ⟨A13, c13, rfl, p1, p2, -⟩ := HO.out.form
        have HNu := hide (texts12_any A13 k c13 wo.heap.size (rt.map setT) wo (by rw [List.length_map, HL1.out]) p1 p2 (Nat.le_refl _) (HV.out.isl HO.out.rd))
        rw [keptT_sets rt HOk.out, ← HCs.out] at HNu
        have HFo := hide (HF910.out.tr HF.out)
        have HColo := hide (HCol.out.fr0 HF.out)
        have HTer := hide (txTerms_any HColo.out)
        rw [← HTk.out] at HTer
        unfold maxLen at p2
        clear htk HO HV
        go_wp2_with (go_at_call 17; refine HLen.out.mono ?_; rintro en w' ⟨rfl, rfl⟩; clear HLen)
        go_loopw [20] (fun i wq => ∃ (q : Nat), 1 ≤ q ∧ i = .int .i64 (q : Nat) ∧ wq = wo) (fun i _ => tk - (intOf i).toNat)
        case atStart => exact ⟨1, by omega, by go_num, rfl⟩
        case round =>
          obtain ⟨q, hq1, rfl, rfl⟩ := hrel
          by_cases hlq : q < tk
          · have hql : q < ts.length := by rw [← HTk.out]; exact hlq
            have HT1 := hide (term_in HColo.out (i := q - 1) (by omega))
            have HT2 := hide (term_in HColo.out hql)
            have hbl : Op.bytesLess (ByteArray.mk (ts.getD (q - 1) []).toArray).toList (ByteArray.mk (ts.getD q []).toArray).toList = true := by
              rw [tx_list, tx_list, bytesLess_eq]
              exact decide_eq_true (ltT_at HLtT.out hq1 hql)
            unfold sv at HT1 HT2
            have eI : ((q - 1 : Nat) : Int) = (q : Int) - 1 := by omega
            rw [eI] at HT1
            generalize ByteArray.mk (ts.getD q []).toArray = X at HT2 hbl
            generalize ByteArray.mk (ts.getD (q - 1) []).toArray = Y at HT1 hbl
            clear hql eI
            go_wp2_with (go_at_call 26; refine HTer.out.mono ?_; rintro en w' ⟨rfl, rfl⟩)
            refine HT1.out.mono ?_
            rintro en w' ⟨rfl, rfl⟩
            clear HT1
            go_wp2_with (fail)
            refine HT2.out.mono ?_
            rintro en w' ⟨rfl, rfl⟩
            clear HT2
            go_wp2_with (fail)
            go_roundw
            case rel => exact ⟨q + 1, by omega, by go_num, trivial⟩
            case measure => simp [intOf]; omega
          · go_wp2_with (go_at_call 26; refine HTer.out.mono ?_; rintro en w' ⟨rfl, rfl⟩)
            refine HNu.out.mono ?_
            rintro en w15 ⟨v15, rfl, hown, hfr⟩
            rw [← HMt.out] at hown
            obtain ⟨A15, c15, rfl, g1, g2, -⟩ := hown.form
            have HF15 := hide (HFo.out.tr hfr)
            have HKb := hide (kbytes_any A15 A9 mt c15 mt c9 w15.heap.size w15.heap.size cs cs w15 HMt.out.symm HMt.out.symm g1 g2 HQ9.out.1 HQ9.out.2 hown.rd (HO9.out.fr0 HF15.out).rd)
            rw [decide_eq_true rfl] at HKb
            unfold maxLen at g2
            clear hown hfr
            go_wp2_with (fail)
            refine HKb.out.mono ?_
            rintro en w16 ⟨rfl, nq, hw⟩
            have HF16 : Hid (Fr No w w16) := hide ((HF9.out.tr HF15.out).tr (by rw [hw]; exact (Fr.refl No w15).drewN nq))
            clear hw
            go_wp2_with (fail)
            go_ret
            exact ⟨rfl, HF16.out⟩
end Go.Proofs.YtnjcncidlhllmaaGreat
