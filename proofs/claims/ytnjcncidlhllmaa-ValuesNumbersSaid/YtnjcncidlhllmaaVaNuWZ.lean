/- ValuesNumbers, walked. -/
import Derived.Test.YtnjcncidlhllmaaK11
namespace Go.Proofs.Ytnjcncidlhllmaa
set_option linter.unusedVariables false
set_option linter.unusedSimpArgs false
open Go.RowKit

theorem rowsV_at {bits : List UInt8} {lens all : List Int} {n k : Nat} {rows : Rw} (h : rowsV bits lens all n = rows) (hk : k < n) : rowV bits lens all k = rows.getD k [] := by
  rw [← h, List.getD, List.getElem?_eq_getElem (by simpa [rowsV] using hk)]
  simp [rowsV]
theorem sortV_at {rows : Rw} {k : Nat} (hk : k < rows.length) : (sortV rows).getD k [] = sortI (rows.getD k []) := by
  simp [sortV, List.getD, List.getElem?_eq_getElem hk]
theorem keptV_ne {rows : Rw} : keptV rows ≠ [] ↔ okV rows := by
  unfold keptV
  constructor
  · intro h
    by_cases ho : okV rows
    · exact ho
    · rw [if_neg ho] at h; exact absurd rfl h
  · intro ho
    rw [if_pos ho, formV]
    have h := (enc_len (sortV rows).length).1
    intro e
    have := congrArg List.length e
    simp only [List.length_append, List.length_nil] at this
    omega
theorem keptV_form {rows : Rw} (h : okV rows) (hi : ∀ l ∈ rows, InI l) : FormV (keptV rows) (sortV rows) := by
  rw [keptV, if_pos h]
  exact FormV.of h hi
theorem formV_le {rows : Rw} (h : okV rows) (hi : ∀ l ∈ rows, InI l) : (formV rows).length ≤ 20000000 := by
  have h1 := (enc_len rows.length).2
  have h2 := bitsV_len rows
  have h3 := putV_le (lensV_in h)
  have h4 := putV_le (allV_in hi)
  have h5 := allV_le h
  have h6 := lensV_len rows
  have h7 := filV_le rows
  have h8 := h.1
  rw [formV]
  simp only [List.length_append]
  omega
theorem keptV_len {rows : Rw} (hi : ∀ l ∈ rows, InI l) : (keptV rows).length ≤ 140737488355328 := by
  unfold keptV
  split
  · rename_i h
    have := formV_le (sortV_ok h) (sortV_in hi)
    omega
  · simp
set_option maxRecDepth 100000 in
set_option maxHeartbeats 4000000 in
theorem valuesNumbers_any (A0 : Option Addr) (n0 c0 : Nat) (rows : Rw) (z : Int) (w : World)
    (h0 : rows.length = n0) (x0 : n0 ≤ c0) (y0 : c0 ≤ maxLen) (z0 : c0 * 24 ≤ 140737488351232) (r0 : ISl w w.heap.size A0 rows) (b0 : ∀ l ∈ rows, l.length * 8 ≤ 140737488351232) (i0 : ∀ l ∈ rows, InI l) :
    Calls Try.prog 3 #[.slice A0 n0 c0, .int .i64 z] w (RetB true w) := by
  have HL := hide h0
  have HR0 := hide r0
  have HI := hide i0
  have HLn := hide (lentRows_any A0 n0 c0 w.heap.size rows w h0 x0 y0 (by omega) (fun l hl => by have := b0 l hl; omega) (Nat.le_refl _) r0)
  have hy0 := y0
  have HC := hide (And.intro x0 y0)
  unfold maxLen at y0
  clear r0 h0 i0 b0 hy0
  go_enter Try.func3, Try.ntmps3
  go_wp2_with (fail)
  refine HLn.out.mono ?_
  rintro en w1 ⟨A2, c2, rfl, j1, j2, hlr, hf⟩
  have HF1 := hide hf
  have HLR := hide hlr
  have HNu := hide (numbers_any A2 n0 c2 w1.heap.size rows w1 HL.out HI.out (by omega) j2 (Nat.le_refl _) hlr.isl)
  have HJ := hide (And.intro j1 j2)
  unfold maxLen at j2
  clear hf hlr HLn
  go_wp2_with (fail)
  refine HNu.out.mono ?_
  rintro en w2 ⟨v3, rfl, hob, hf⟩
  obtain ⟨bs, hbs⟩ : ∃ x, x = keptV rows := ⟨_, rfl⟩
  obtain ⟨m, hm⟩ : ∃ x, x = bs.length := ⟨_, rfl⟩
  rw [← hbs, ← hm] at hob
  obtain ⟨A3, c3, rfl, q1, q2, _⟩ := hob.form
  have HO2 := hide hob
  have HF2 := hide (HF1.out.tr hf)
  have HF12 := hide hf
  have HBs := hide hbs
  have HM := hide hm
  have HRf := hide (refNumbers_any A0 n0 c0 w.heap.size rows w2 HL.out HI.out HC.out.1 HC.out.2 HF2.out.size (HR0.out.fr0 HF2.out))
  rw [← hbs] at HRf
  have HQ2 := hide q2
  have hmb : m ≤ 140737488355328 := by rw [hm, hbs]; exact keptV_len HI.out
  unfold maxLen at q2
  clear hf hob hbs hm HNu
  go_wp2_with (fail)
  refine HRf.out.mono ?_
  rintro en w3 ⟨v4, rfl, hob, hf⟩
  rw [← HM.out] at hob
  obtain ⟨A4, c4, rfl, q3, q4, _⟩ := hob.form
  have HKb := hide (kbytes_any A3 A4 m c3 m c4 w3.heap.size w3.heap.size bs bs w3 HM.out.symm HM.out.symm q1 HQ2.out q3 q4 (HO2.out.fr0 hf).rd hob.rd)
  rw [decide_eq_true rfl] at HKb
  have HF3 := hide (HF2.out.tr hf)
  have HF23 := hide hf
  have HKr := hide (fun W (f : Fr No w2 W) => keptRows_any A2 A0 n0 c2 c0 w1.heap.size w.heap.size rows W HL.out HJ.out.1 HJ.out.2 HC.out.1 HC.out.2 (HLR.out.fr0 (HF12.out.tr f)) (HR0.out.fr0 (HF2.out.tr f)))
  have HO3 := hide (HO2.out.fr0 hf)
  unfold maxLen at q4
  clear hf hob HRf
  go_wp2_with (fail)
  refine HKb.out.mono ?_
  rintro en w4 ⟨rfl, nq1, hw4⟩
  have HF34 : Hid (Fr No w3 w4) := hide (by rw [hw4]; exact (Fr.refl No w3).drewN nq1)
  clear hw4 HKb
  go_wp2_with (fail)
  refine (HKr.out w4 (HF23.out.tr HF34.out)).mono ?_
  rintro en w5 ⟨rfl, nq2, hw5⟩
  have HF35 : Hid (Fr No w3 w5) := hide (HF34.out.tr (by rw [hw5]; exact (Fr.refl No w4).drewN nq2))
  have HF5 : Hid (Fr No w w5) := hide (HF3.out.tr HF35.out)
  have HO5 := hide (HO3.out.fr0 HF35.out)
  clear hw5 HKr HF34 HO3
  by_cases hm0 : m = 0
  · subst hm0
    go_wp2_with (fail)
    go_ret
    exact ⟨rfl, HF5.out⟩
  have hmI : ((m : Int) == 0) = false := by simpa using hm0
  have hok : okV rows := keptV_ne.1 (fun e => hm0 (by rw [HM.out, HBs.out, e]; rfl))
  have hfm : FormV bs (sortV rows) := by rw [HBs.out]; exact keptV_form hok HI.out
  have HOn := hide (openNumbers_any A3 m c3 w5.heap.size bs w5 HM.out.symm q1 HQ2.out hmb (Nat.le_refl _) HO5.out.rd)
  have HFm := hide hfm
  have HOk := hide hok
  have hn16 : n0 ≤ 16384 := by rw [← HL.out]; exact hok.1
  clear hfm hok hm0
  go_wp2_with (fail)
  refine HOn.out.mono ?_
  rintro en w6 ⟨hf, hcase⟩
  obtain ⟨G, bits, lens, all, rfl, hcol, hrv⟩ : ∃ G bits lens all, en = .returned (.tuple #[.pointer (some ⟨G, 0, none⟩), .int .i64 0]) ∧ ColO w6 w5.heap.size G bits lens all n0 ∧ rowsV bits lens all n0 = sortV rows := by
    rcases hcase with ⟨hno, _⟩ | ⟨rs, hrs, G, bits, lens, all, he, hc, hr⟩
    · exact absurd ⟨_, HFm.out⟩ hno
    · have e : rs = sortV rows := by rw [← hrs.rd, HFm.out.rd]
      subst e
      rw [sortV_len, HL.out] at hc hr
      exact ⟨G, bits, lens, all, he, hc, hr⟩
  have HF6 := hide (HF5.out.tr hf)
  have HCol := hide hcol
  have HRv := hide hrv
  have HLen := hide (numLen_any hcol.m)
  clear hf hcase hcol hrv HOn
  go_wp2_with (fail)
  refine HLen.out.mono ?_
  rintro en w7 ⟨rfl, rfl⟩
  have hnn : ((n0 : Int) != n0) = false := by simp
  clear HLen
  go_wp2_with (fail)
  go_loopw [10, 11] (fun f i wr => ∃ (k o : Nat), k ≤ n0 ∧ i = .int .i64 (k : Nat) ∧ o ≤ k ∧ f = .int .i64 (o : Nat) ∧ Hid (o = filV (rowsV bits lens all k)) ∧ Hid (Fr No w6 wr)) (fun _ i _ => n0 - (intOf i).toNat)
  case atStart => exact ⟨0, 0, by omega, by go_num, by omega, by go_num, hide rfl, hide (Fr.refl _ _)⟩
  case round =>
    obtain ⟨k, o, hk, rfl, hok, rfl, HFk, HFr⟩ := hrel
    obtain ⟨wo, rfl⟩ : ∃ wo : World, wo = wr := ⟨_, rfl⟩
    by_cases hlt : k < n0
    · have hk1 : k < rows.length := by rw [HL.out]; exact hlt
      have HFw : Hid (Fr No w wo) := hide (HF6.out.tr HFr.out)
      obtain ⟨ad, Ai, ci, hA0, hadb, hcell, hc1, hc2, hrd⟩ := (HR0.out.fr0 HFw.out).at hk1
      subst hA0
      have hli64 : (rows.getD k []).length ≤ 64 := HOk.out.2 _ (by rw [List.getD, List.getElem?_eq_getElem hk1]; exact List.getElem_mem hk1)
      have hrow : rowV bits lens all k = sortI (rows.getD k []) := by rw [rowsV_at HRv.out hlt, sortV_at hk1]
      have hrl : (rowV bits lens all k).length = (rows.getD k []).length := by rw [hrow, sortI_len]
      have HColo := hide (HCol.out.fr0 HFr.out)
      have HRow := hide (fun W (f : Fr No wo W) => numRow_in (HColo.out.fr0 f).m hlt hn16 (by rw [hrl]; exact hli64))
      have HSo := hide (fun W (f : Fr No wo W) => refSorted_any Ai (rows.getD k []).length ci w.heap.size (rows.getD k []) W rfl hc1 hc2 (by omega) (HFw.out.tr f).size (hrd.fr0 f))
      rw [hrow] at HRow
      have HSl : Hid ((sortI (rows.getD k [])).length = (rows.getD k []).length) := hide (sortI_len _)
      have hfs : filV (rowsV bits lens all (k + 1)) = o + (if (rows.getD k []).length = 0 then 0 else 1) := by rw [rowsV_succ, filV_snoc, HFk.out, hrl]
      obtain ⟨li, hli⟩ : ∃ x, x = (rows.getD k []).length := ⟨_, rfl⟩
      rw [← hli] at hcell hfs HSl
      obtain ⟨sr, hsr⟩ : ∃ x, x = sortI (rows.getD k []) := ⟨_, rfl⟩
      rw [← hsr] at HRow HSl
      rw [← hli, ← hsr] at HSo
      have HFs := hide hfs
      have kc : wo.drew.cell? (ad.add k) = some (.slice Ai li ci) := hcell
      have HK0 := hide kc
      have hc2' := hc2
      unfold maxLen at hc2'
      clear hrd hk1 hadb hrow hrl hli hsr hfs hcell hli64 hc2
      go_upto_region 15 with (fail)
      refine wp_named fun K hK => ?_
      go_cut [60] from 51 to 60 (fun v wx => v = .bool false ∧ Hid (Fr No wo wx))
      case first =>
        go_region_held3 (fun W => W.cell? (ad.add k) = some (.slice Ai li ci)) (first | exact HK3.out | exact HK2.out | exact HK1.out | exact HK0.out) (first
          | (go_at_call 13; refine (HRow.out _ (Fr.refl No wo).drew).mono ?_; rintro en w20 ⟨v20, rfl, ho20, hf20⟩; rw [HSl.out] at ho20; obtain ⟨A20, c20, rfl, p1, p2, _⟩ := ho20.form; have HO20 := hide ho20; have HP20 := hide (And.intro p1 p2); have HF20 : Hid (Fr No wo w20) := hide ((Fr.refl No wo).drew.tr hf20); have HK1 : Hid (w20.cell? (ad.add k) = some (.slice Ai li ci)) := hide (hf20.cell HK0.out (fun h => h)); unfold maxLen at p2; clear ho20 hf20)
          | (go_at_call 14; refine (HSo.out _ HF20.out).mono ?_; rintro en w21 ⟨v21, rfl, ho21, hf21⟩; rw [HSl.out] at ho21; obtain ⟨A21, c21, rfl, p3, p4, _⟩ := ho21.form; have HF21 : Hid (Fr No wo w21) := hide (HF20.out.tr hf21); have HK2 : Hid (w21.cell? (ad.add k) = some (.slice Ai li ci)) := hide (hf21.cell HK1.out (fun h => h)); have HKi := hide (sameI64_any A20 A21 li c20 li c21 w21.heap.size w21.heap.size sr sr w21 HSl.out HSl.out HP20.out.1 HP20.out.2 p3 p4 (HO20.out.fr0 hf21).rd ho21.rd); rw [decide_eq_true rfl] at HKi; unfold maxLen at p4; clear ho21 hf21)
          | (go_at_call 12; refine HKi.out.mono ?_; rintro en w22 ⟨rfl, nq, hw22⟩; have hf22 : Fr No w21 w22 := (by rw [hw22]; exact (Fr.refl No w21).drewN nq); have HF22 : Hid (Fr No wo w22) := hide (HF21.out.tr hf22); have HK3 : Hid (w22.cell? (ad.add k) = some (.slice Ai li ci)) := hide (hf22.cell HK2.out (fun h => h)); clear hw22 hf22))
        all_goals (go_wp2; go_meet)
        all_goals exact ⟨rfl, HF22⟩
      case rest =>
        obtain ⟨rfl, HFc⟩ := hcut
        refine hK _ _ ?_
        clear hK kc
        have hcl := HFc.out.cell HK0.out (fun h => h)
        have HFd := hide (HFr.out.tr HFc.out)
        by_cases hl0 : li = 0
        · subst hl0
          have HFe : Hid (filV (rowsV bits lens all (k + 1)) = o) := hide (by rw [HFs.out]; rfl)
          go_wp2_with (fail)
          go_roundw
          case rel => exact ⟨k + 1, o, by omega, by go_num, by omega, by go_num, hide HFe.out.symm, HFd⟩
          case measure => simp [intOf]; omega
        · have HFe : Hid (filV (rowsV bits lens all (k + 1)) = o + 1) := hide (by rw [HFs.out, if_neg hl0])
          have d0 : decide ((0 : Int) < (li : Int)) = true := decide_eq_true (by omega)
          have d1 : decide (0 < li) = true := decide_eq_true (by omega)
          have d2 : 0 < li := by omega
          go_wp2_with (fail)
          go_roundw
          case rel => exact ⟨k + 1, o + 1, by omega, by go_num, by omega, by go_num, hide HFe.out.symm, HFd⟩
          case measure => simp [intOf]; omega
    · obtain rfl : k = n0 := by omega
      have HFi := hide (filled_any (HCol.out.fr0 HFr.out).m hn16)
      rw [← HFk.out] at HFi
      have HFw : Hid (Fr No w wo) := hide (HF6.out.tr HFr.out)
      by_cases hat : 0 ≤ z ∧ z < (k : Int)
      · obtain ⟨ha1, ha2⟩ := hat
        have d0 : decide (0 ≤ z) = true := decide_eq_true ha1
        have d1 : decide (z < (k : Int)) = true := decide_eq_true ha2
        clear hlt ha1 ha2
        go_wp2_with (go_at_call 15; refine HFi.out.mono ?_; rintro en w8 ⟨rfl, nq, hw8⟩; have HF8 : Hid (Fr No w w8) := hide (HFw.out.tr (by rw [hw8]; exact (Fr.refl No wo).drewN nq)); clear hw8)
        go_ret
        exact ⟨by simp, HF8.out⟩
      · have HRo := hide (fun W (f : Fr No wo W) => numRow_out ((HCol.out.fr0 HFr.out).fr0 f).m z (by omega))
        by_cases ha1 : 0 ≤ z
        · have d0 : decide (0 ≤ z) = true := decide_eq_true ha1
          have d1 : decide (z < (k : Int)) = false := decide_eq_false (by omega)
          clear hlt ha1 hat
          go_wp2_with (first
            | (go_at_call 15; refine HFi.out.mono ?_; rintro en w8 ⟨rfl, nq, hw8⟩; have HF8 : Hid (Fr No wo w8) := hide (by rw [hw8]; exact (Fr.refl No wo).drewN nq); clear hw8)
            | (go_at_call 13; refine (HRo.out _ HF8.out).mono ?_; rintro en w9 ⟨v9, rfl, ho9, hf9⟩; obtain ⟨A9, c9, rfl, p1, p2, _⟩ := ho9.form; have HF9 : Hid (Fr No w w9) := hide (HFw.out.tr (HF8.out.tr hf9)); unfold maxLen at p2; clear ho9 hf9))
          go_ret
          exact ⟨by simp, HF9.out⟩
        · have d0 : decide (0 ≤ z) = false := decide_eq_false ha1
          clear hlt ha1 hat
          go_wp2_with (first
            | (go_at_call 15; refine HFi.out.mono ?_; rintro en w8 ⟨rfl, nq, hw8⟩; have HF8 : Hid (Fr No wo w8) := hide (by rw [hw8]; exact (Fr.refl No wo).drewN nq); clear hw8)
            | (go_at_call 13; refine (HRo.out _ HF8.out).mono ?_; rintro en w9 ⟨v9, rfl, ho9, hf9⟩; obtain ⟨A9, c9, rfl, p1, p2, _⟩ := ho9.form; have HF9 : Hid (Fr No w w9) := hide (HFw.out.tr (HF8.out.tr hf9)); unfold maxLen at p2; clear ho9 hf9))
          go_ret
          exact ⟨by simp, HF9.out⟩
end Go.Proofs.Ytnjcncidlhllmaa
