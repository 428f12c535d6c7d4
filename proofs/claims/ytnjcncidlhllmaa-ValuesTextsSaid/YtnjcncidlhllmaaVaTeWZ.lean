/- ValuesTexts, walked. -/
import Derived.Test.YtnjcncidlhllmaaK14
namespace Go.Proofs.Ytnjcncidlhllmaa
set_option linter.unusedVariables false
set_option linter.unusedSimpArgs false
open Go.RowKit

theorem keptT_ne {rows : RwT} : keptT rows ≠ [] ↔ okT rows := by
  unfold keptT
  constructor
  · intro h
    by_cases ho : okT rows
    · exact ho
    · rw [if_neg ho] at h; exact absurd rfl h
  · intro ho
    rw [if_pos ho, textsB]
    have h := (enc_len (termsV rows).length).1
    intro e
    have := congrArg List.length e
    simp only [List.length_append, List.length_nil] at this
    omega
theorem keptT_len (rows : RwT) : (keptT rows).length ≤ 400000000 := by
  unfold keptT
  split
  · rename_i h
    have h1 := termsV_le h.1
    have h2 := txts_le (termsV rows) (fun t ht => by
      obtain ⟨l, hl, ht⟩ := (termsV_mem rows t).1 ht
      exact h.2 l hl t ht)
    have h3 := enc_le (termsV rows).length
    have h4 := formV_leT (ordsR_ok h.1) (ordsR_in h.1)
    rw [textsB, List.length_append, List.length_append]
    omega
  · simp
/-- what the law's opened column is. -/
theorem opened_texts {rows : RwT} {bs : List UInt8} (hok : okT rows) (hbs : bs = keptT rows) : accT bs ∧ (tT bs).1 = termsV rows ∧ nV (restT bs) = rows.length ∧ rdV (restT bs) = ordsR rows := by
  have e : bs = textsB rows := by rw [hbs, keptT, if_pos hok]
  subst e
  obtain ⟨h1, h2, h3⟩ := rd_texts hok
  exact ⟨h1, by rw [(texts_parts hok).1], by rw [← rdV_len, h3, ordsR_len], h3⟩
def whereT (ts : List Tx) (t : Tx) (j : Nat) : Int := if t ∈ ts.take j then (ordT ts t : Nat) else -1
theorem ordT_at {ts : List Tx} (h : ltT ts) {j : Nat} (hj : j < ts.length) : ordT ts (ts.getD j []) = j := by
  have hm := getD_mem hj
  obtain ⟨h1, h2⟩ := ordT_mem h hm
  rcases Nat.lt_or_ge (ordT ts (ts.getD j [])) j with h3 | h3
  · have h4 := List.pairwise_iff_getElem.1 h _ _ h1 hj h3
    have e1 : ts.getD j [] = ts[j] := by simp [List.getD, List.getElem?_eq_getElem hj]
    have e2 : ts.getD (ordT ts (ts.getD j [])) [] = ts[ordT ts (ts.getD j [])] := by rw [List.getD, List.getElem?_eq_getElem h1]; rfl
    rw [← e2, h2, e1] at h4
    exact absurd h4 (tl_irrefl _)
  · rcases Nat.lt_or_ge j (ordT ts (ts.getD j [])) with h4 | h4
    · exact absurd (ordT_below ts _ h4) (tl_irrefl _)
    · omega
theorem rowsV_at2 {bits : List UInt8} {lens all : List Int} {n k : Nat} {rows : Rw} (h : rowsV bits lens all n = rows) (hk : k < n) : rowV bits lens all k = rows.getD k [] := by
  rw [← h, List.getD, List.getElem?_eq_getElem (by simpa [rowsV] using hk)]
  simp [rowsV]
theorem ordsR_at {rows : RwT} {k : Nat} (h : k < rows.length) : (ordsR rows).getD k [] = ordsV (termsV rows) (rows.getD k []) := by
  simp [ordsR, List.getD, List.getElem?_eq_getElem h]
set_option maxRecDepth 100000 in
set_option maxHeartbeats 8000000 in
theorem valuesTexts_any (A0 : Option Addr) (n0 c0 : Nat) (rows : RwT) (z : Int) (t : Tx) (w : World)
    (h0 : rows.length = n0) (x0 : n0 ≤ c0) (y0 : c0 ≤ maxLen) (z0 : c0 * 24 ≤ 140737488351232) (r0 : TSl w w.heap.size A0 rows) (b0 : ∀ l ∈ rows, l.length * 16 ≤ 140737488351232) (i0 : ∀ l ∈ rows, ∀ t ∈ l, t.length ≤ maxLen) :
    Calls Try.prog 4 #[.slice A0 n0 c0, .int .i64 z, .string ⟨t.toArray⟩] w (RetB true w) := by
  have HL := hide h0
  have HR0 := hide r0
  have HI := hide i0
  have HLn := hide (texts_any A0 n0 c0 w.heap.size rows w h0 x0 y0 (by omega) (fun l hl => by have := b0 l hl; omega) (Nat.le_refl _) r0)
  have hy0 := y0
  have HC := hide (And.intro x0 y0)
  unfold maxLen at y0
  clear r0 h0 i0 b0 hy0
  go_enter Try.func4, Try.ntmps4
  go_wp2_with (fail)
  refine HLn.out.mono ?_
  rintro en w1 ⟨A2, c2, rfl, j1, j2, hlr, hf⟩
  have HF1 := hide hf
  have HLR := hide hlr
  have HNu := hide (texts12_any A2 n0 c2 w1.heap.size rows w1 HL.out j1 j2 (Nat.le_refl _) hlr.tsl)
  have HJ := hide (And.intro j1 j2)
  unfold maxLen at j2
  clear hf hlr HLn
  go_wp2_with (fail)
  refine HNu.out.mono ?_
  rintro en w2 ⟨v3, rfl, hob, hf⟩
  obtain ⟨bs, hbs⟩ : ∃ x, x = keptT rows := ⟨_, rfl⟩
  obtain ⟨m, hm⟩ : ∃ x, x = bs.length := ⟨_, rfl⟩
  rw [← hbs, ← hm] at hob
  obtain ⟨A3, c3, rfl, q1, q2, _⟩ := hob.form
  have HO2 := hide hob
  have HF2 := hide (HF1.out.tr hf)
  have HF12 := hide hf
  have HBs := hide hbs
  have HM := hide hm
  have HRf := hide (refTexts12_any A0 n0 c0 w.heap.size rows w2 HL.out HC.out.1 HC.out.2 HF2.out.size HI.out (HR0.out.fr0 HF2.out))
  rw [← hbs] at HRf
  have HQ2 := hide q2
  have hmb : m ≤ 400000000 := by rw [hm, hbs]; exact keptT_len rows
  unfold maxLen at q2
  clear hf hob hbs hm HNu
  go_wp2_with (fail)
  refine HRf.out.mono ?_
  rintro en w3 ⟨v4, rfl, hob, hf⟩
  rw [← HM.out] at hob
  obtain ⟨A4, c4, rfl, q3, q4, _⟩ := hob.form
  have HKb := hide (kbytes_any A3 A4 m c3 m c4 w3.heap.size w3.heap.size bs bs w3 HM.out.symm HM.out.symm q1 HQ2.out q3 q4 (HO2.out.fr0 hf).rd hob.rd)
  rw [decide_eq_true rfl] at HKb
  have HF3 := hide (HF2.out.tr hf)
  have HF23 := hide hf
  have HKr := hide (fun W (f : Fr No w2 W) => same12_any A2 A0 n0 c2 c0 w1.heap.size w.heap.size rows W HL.out HJ.out.1 HJ.out.2 HC.out.1 HC.out.2 (HLR.out.fr0 (HF12.out.tr f)) (HR0.out.fr0 (HF2.out.tr f)))
  have HO3 := hide (HO2.out.fr0 hf)
  unfold maxLen at q4
  clear hf hob HRf
  go_wp2_with (fail)
  refine HKb.out.mono ?_
  rintro en w4 ⟨rfl, nq1, hw4⟩
  have HF34 : Hid (Fr No w3 w4) := hide (by rw [hw4]; exact (Fr.refl No w3).drewN nq1)
  clear hw4 HKb
  go_wp2_with (fail)
  refine (HKr.out w4 (HF23.out.tr HF34.out)).mono ?_
  rintro en w5 ⟨rfl, nq2, hw5⟩
  have HF35 : Hid (Fr No w3 w5) := hide (HF34.out.tr (by rw [hw5]; exact (Fr.refl No w4).drewN nq2))
  have HF5 : Hid (Fr No w w5) := hide (HF3.out.tr HF35.out)
  have HO5 := hide (HO3.out.fr0 HF35.out)
  clear hw5 HKr HF34 HO3
  by_cases hm0 : m = 0
  · subst hm0
    go_wp2_with (fail)
    go_ret
    exact ⟨rfl, HF5.out⟩
  have hmI : ((m : Int) == 0) = false := by simpa using hm0
  have hok : okT rows := keptT_ne.1 (fun e => hm0 (by rw [HM.out, HBs.out, e]; rfl))
  have hop := opened_texts hok HBs.out
  have HOn := hide (openTexts_any A3 m c3 w5.heap.size bs w5 HM.out.symm q1 HQ2.out (by omega) (Nat.le_refl _) HO5.out.rd)
  have HOk := hide hok
  have hn16 : n0 ≤ 16384 := by rw [← HL.out]; exact hok.1.1
  have HOp := hide hop
  clear hok hm0 hop
  go_wp2_with (fail)
  refine HOn.out.mono ?_
  rintro en w6 ⟨hf, hcase⟩
  obtain ⟨G, bits, lens, all, rfl, hcol, hrv⟩ : ∃ G bits lens all, en = .returned (.tuple #[.pointer (some ⟨G, 0, none⟩), .int .i64 0]) ∧ ColT w6 w5.heap.size G bits lens all n0 (termsV rows) ∧ rowsV bits lens all n0 = ordsR rows := by
    rcases hcase with ⟨hno, _⟩ | ⟨_, G, bits, lens, all, he, hc, hr⟩
    · exact absurd HOp.out.1 hno
    · rw [HOp.out.2.1, HOp.out.2.2.1, HL.out] at hc
      rw [HOp.out.2.2.1, HOp.out.2.2.2, HL.out] at hr
      exact ⟨G, bits, lens, all, he, hc, hr⟩
  have HF6 := hide (HF5.out.tr hf)
  have HRv := hide hrv
  have HTe := hide (refTerms_any A0 n0 c0 w.heap.size rows w6 HL.out HOk.out HC.out.1 HC.out.2 HF6.out.size (HR0.out.fr0 HF6.out))
  have hsub : ∀ l ∈ rows, ∀ t ∈ l, t ∈ termsV rows := fun l hl t ht => (termsV_mem rows t).2 ⟨l, hl, ht⟩
  have htl := termsV_le HOk.out.1
  have hlt' := termsV_lt rows
  have hat : ∀ k, k < rows.length → (ordsR rows).getD k [] = ordsV (termsV rows) (rows.getD k []) := fun k hk => ordsR_at hk
  obtain ⟨ts, hts⟩ : ∃ x, x = termsV rows := ⟨_, rfl⟩
  obtain ⟨tk, htk⟩ : ∃ x, x = ts.length := ⟨_, rfl⟩
  rw [← hts] at HTe hcol hsub htl hlt' hat
  rw [← htk] at htl
  have HCol := hide hcol
  have HSub := hide hsub
  have HLt := hide hlt'
  have HAt := hide hat
  have HTk := hide htk
  clear hf hcase hcol hrv HOn hsub hlt' hat hts htk HOp
  go_wp2_with (fail)
  refine HTe.out.mono ?_
  rintro en w7 ⟨v7, rfl, hown, hf⟩
  rw [← HTk.out] at hown
  obtain ⟨At, ct, rfl, y1, y2, -⟩ := hown.form
  have HT7 := hide hown
  have HF7 := hide (HF6.out.tr hf)
  have HCol7 := hide (HCol.out.fr0 hf)
  have HLen := hide (txLen_any HCol7.out)
  have HTer := hide (txTerms_any HCol7.out)
  rw [← HTk.out] at HTer
  have hnn : ((n0 : Int) != n0) = false := by simp
  have htt : ((tk : Int) != tk) = false := by simp
  have HY := hide (And.intro y1 y2)
  unfold maxLen at y2
  clear hown hf HTe HCol
  go_wp2_with (first
    | (go_at_call 22; refine HLen.out.mono ?_; rintro en w' ⟨rfl, rfl⟩)
    | (go_at_call 23; refine HTer.out.mono ?_; rintro en w' ⟨rfl, rfl⟩))
  clear hnn htt HLen HTer
  go_loopw [13] (fun i wr => ∃ (k : Nat), k ≤ n0 ∧ i = .int .i64 (k : Nat) ∧ Hid (Fr No w7 wr)) (fun i _ => n0 - (intOf i).toNat)
  case atStart => exact ⟨0, by omega, by go_num, hide (Fr.refl _ _)⟩
  case round =>
    obtain ⟨wo, rfl⟩ : ∃ wo : World, wo = wr := ⟨_, rfl⟩
    obtain ⟨k, hk, rfl, HFr⟩ := hrel
    by_cases hlt : k < n0
    · have hk1 : k < rows.length := by rw [HL.out]; exact hlt
      have HFw : Hid (Fr No w wo) := hide (HF7.out.tr HFr.out)
      obtain ⟨ad, Ai, ci, hA0, hadb, hcell0, hc1, hc2, hrd⟩ := HR0.out.at hk1
      subst hA0
      have hmem := getD_memR hk1
      have hli64 := HOk.out.1.2 _ hmem
      have hsb := HSub.out _ hmem
      have hrow : rowV bits lens all k = ordsV ts (rows.getD k []) := by rw [rowsV_at2 HRv.out hlt, HAt.out k hk1]
      obtain ⟨row, hrw⟩ : ∃ x, x = rows.getD k [] := ⟨_, rfl⟩
      rw [← hrw] at hcell0 hc1 hrd hli64 hsb hrow
      have hpk : pickT ts (rowV bits lens all k) = setT row := by rw [hrow]; exact pickT_ords HLt.out hsb
      have hsl := setT_le row
      have hrl : (rowV bits lens all k).length ≤ 64 := by rw [hrow, ordsV_len]; omega
      have hrg : ∀ x ∈ rowV bits lens all k, 0 ≤ x ∧ x < (ts.length : Int) := fun x hx => by
        rw [hrow] at hx
        obtain ⟨s, hs, rfl⟩ := List.mem_map.1 hx
        have := (ordT_mem HLt.out (hsb s ((setT_mem row s).1 hs))).1
        omega
      obtain ⟨li, hli⟩ : ∃ x, x = row.length := ⟨_, rfl⟩
      rw [← hli] at hcell0 hc1 hli64 hsl
      have HOr := hide (refOrds_any At Ai tk ct wo.heap.size li ci w.heap.size ts row wo HTk.out.symm hli.symm HLt.out hsb HY.out.1 HY.out.2 htl hc1 hc2 hli64 HFw.out.size (HT7.out.fr0 HFr.out).rd (hrd.fr0 HFw.out))
      have HOi := hide (fun W (f : Fr No wo W) => ords_in (HCol7.out.fr0 (HFr.out.tr f)) hlt hn16 hrl)
      have HRw := hide (fun W (f : Fr No wo W) => txRow_in (HCol7.out.fr0 (HFr.out.tr f)) hlt hn16 hrl hrg)
      have HSe := hide (fun W (f : Fr No wo W) => refSet_any Ai li ci w.heap.size row W hli.symm hc1 hc2 (by omega) (HFw.out.tr f).size (hrd.fr0 (HFw.out.tr f)))
      rw [hrow] at HOi
      rw [hpk] at HRw
      obtain ⟨ov, hov⟩ : ∃ x, x = ordsV ts row := ⟨_, rfl⟩
      obtain ⟨ol, hol⟩ : ∃ x, x = ov.length := ⟨_, rfl⟩
      obtain ⟨st, hst⟩ : ∃ x, x = setT row := ⟨_, rfl⟩
      obtain ⟨sl, hsl2⟩ : ∃ x, x = st.length := ⟨_, rfl⟩
      rw [← hov] at HOr HOi
      rw [← hst] at HRw HSe hsl
      rw [← hsl2] at hsl
      have HOl := hide hol
      have HSl := hide hsl2
      have hol64 : ol ≤ 64 := by rw [hol, hov, ordsV_len, ← hst, ← hsl2]; omega
      have hcell := HFw.out.cell hcell0 (fun h => h)
      have HC0 := hide hcell0
      unfold maxLen at hc2
      clear hk1 hadb hcell0 hrd hmem hsb hrow hrw hpk hrl hrg hli hov hol hst hsl2
      go_wp2_with (fail)
      refine HOr.out.mono ?_
      rintro en w8 ⟨v8, rfl, hown, hf⟩
      rw [← HOl.out] at hown
      obtain ⟨A8, c8, rfl, p1, p2, -⟩ := hown.form
      have HO8 := hide hown
      have HF8 := hide hf
      have HOi8 := hide (HOi.out w8 hf)
      unfold maxLen at p2
      clear hown hf HOr HOi hcell
      go_wp2_with (fail)
      refine HOi8.out.mono ?_
      rintro en w9 ⟨v9, rfl, hown, hf⟩
      rw [← HOl.out] at hown
      obtain ⟨A9, c9, rfl, p3, p4, -⟩ := hown.form
      have HO9 := hide hown
      have HF9 := hide (HF8.out.tr hf)
      have HO8' := hide (HO8.out.fr0 hf)
      have kc : w9.drew.cell? (ad.add k) = some (.slice Ai li ci) := (HFw.out.tr HF9.out).cell HC0.out (fun h => h)
      have hno : ((ol : Int) != ol) = false := by simp
      unfold maxLen at p4
      clear hown hf HOi8 HO8 HF8
      go_upto_region 17 with (fail)
      refine wp_named fun K hK => ?_
      go_cut [94] from 78 to 94 (fun v wx => v = .bool false ∧ Hid (Fr No w9 wx))
      case first =>
        have HK0 := hide kc
        go_region_held3 (fun W => W.cell? (ad.add k) = some (.slice Ai li ci)) (first | exact HK3.out | exact HK2.out | exact HK1.out | exact HK0.out) (first
          | (go_at_call 27; refine (HRw.out _ (HF9.out.tr (Fr.refl No w9).drew)).mono ?_; rintro en w20 ⟨v20, rfl, ho20, hf20⟩; rw [← HSl.out] at ho20; obtain ⟨A20, c20, rfl, g1, g2, _⟩ := ho20.form; have HO20 := hide ho20; have HP20 := hide (And.intro g1 g2); have HF20 : Hid (Fr No w9 w20) := hide ((Fr.refl No w9).drew.tr hf20); have HK1 : Hid (w20.cell? (ad.add k) = some (.slice Ai li ci)) := hide (hf20.cell HK0.out (fun h => h)); unfold maxLen at g2; clear ho20 hf20)
          | (go_at_call 28; refine (HSe.out _ (HF9.out.tr HF20.out)).mono ?_; rintro en w21 ⟨v21, rfl, ho21, hf21⟩; rw [← HSl.out] at ho21; obtain ⟨A21, c21, rfl, g3, g4, _⟩ := ho21.form; have HF21 : Hid (Fr No w9 w21) := hide (HF20.out.tr hf21); have HK2 : Hid (w21.cell? (ad.add k) = some (.slice Ai li ci)) := hide (hf21.cell HK1.out (fun h => h)); have HKi := hide (sameS_any A20 A21 sl c20 sl c21 w21.heap.size w21.heap.size st st w21 HSl.out.symm HSl.out.symm HP20.out.1 HP20.out.2 g3 g4 (HO20.out.fr0 hf21).rd ho21.rd); rw [decide_eq_true rfl] at HKi; unfold maxLen at g4; clear ho21 hf21)
          | (go_at_call 26; refine HKi.out.mono ?_; rintro en w22 ⟨rfl, nq, hw22⟩; have hf22 : Fr No w21 w22 := (by rw [hw22]; exact (Fr.refl No w21).drewN nq); have HF22 : Hid (Fr No w9 w22) := hide (HF21.out.tr hf22); have HK3 : Hid (w22.cell? (ad.add k) = some (.slice Ai li ci)) := hide (hf22.cell HK2.out (fun h => h)); clear hw22 hf22))
        all_goals (go_wp2; go_meet)
        all_goals exact ⟨rfl, HF22⟩
      case rest =>
        obtain ⟨rfl, HFc⟩ := hcut
        obtain ⟨wx, rfl⟩ : ∃ W : World, W = wc := ⟨_, rfl⟩
        refine hK _ _ ?_
        clear hK kc HRw HSe hno
        have HR8 := hide (HO8'.out.fr0 HFc.out).rd
        have HR9 := hide (HO9.out.fr0 HFc.out).rd
        have HFx : Hid (Fr No w7 wx) := hide (HFr.out.tr (HF9.out.tr HFc.out))
        go_wp2_with (fail)
        go_loopw [16] (fun i wq => ∃ (q nq : Nat), q ≤ ol ∧ i = .int .i64 (q : Nat) ∧ wq = wx.drewN nq) (fun i _ => ol - (intOf i).toNat)
        case atStart => exact ⟨0, 0, by omega, by go_num, rfl⟩
        case round =>
          obtain ⟨q, nq, hq, rfl, rfl⟩ := hrel
          by_cases hlq : q < ol
          · have hq1 : q < ov.length := by rw [← HOl.out]; exact hlq
            obtain ⟨ad8, hA8, _, hc8⟩ := HR8.out.intAt hq1
            obtain ⟨ad9, hA9, _, hc9⟩ := HR9.out.intAt hq1
            subst hA8
            subst hA9
            generalize ov.getD q 0 = x at hc8 hc9
            have hne : (x != x) = false := by simp
            clear hq1
            go_wp2
            go_quiet (fail)
            go_wp2
            go_roundw
            case rel => exact ⟨q + 1, _, by omega, by go_num, rfl⟩
            case measure => simp [intOf]; omega
          · obtain rfl : q = ol := by omega
            go_wp2
            go_roundw
            case rel => exact ⟨k + 1, by omega, by go_num, hide (HFx.out.drewN _)⟩
            case measure => simp [intOf]; omega
    · obtain rfl : k = n0 := by omega
      have HFw : Hid (Fr No w wo) := hide (HF7.out.tr HFr.out)
      have HColo := hide (HCol7.out.fr0 HFr.out)
      have HTo := hide (HT7.out.fr0 HFr.out)
      have HFi := hide (find_any HColo.out HLt.out (by rw [← HTk.out]; omega) t)
      have HW0 : Hid (whereT ts t 0 = -1) := hide (by simp [whereT])
      have HWe : Hid (whereT ts t tk = (if t ∈ ts then ((ordT ts t : Nat) : Int) else -1)) := hide (by rw [whereT, List.take_of_length_le (by rw [HTk.out]; exact Nat.le_refl _)])
      have HWn : Hid (∀ j, j < tk → whereT ts t (j + 1) = if ts.getD j [] = t then (j : Int) else whereT ts t j) := hide (fun j hj => by
        have hj1 : j < ts.length := by rw [← HTk.out]; exact hj
        have hst : ts.take (j + 1) = ts.take j ++ [ts.getD j []] := take_getD [] hj1
        unfold whereT
        rw [hst]
        by_cases e : ts.getD j [] = t
        · rw [if_pos e, if_pos (by rw [e]; simp), ← e, ordT_at HLt.out hj1]
        · rw [if_neg e]
          by_cases hm : t ∈ ts.take j
          · rw [if_pos hm, if_pos (by rw [List.mem_append]; exact .inl hm)]
          · rw [if_neg hm, if_neg (by rw [List.mem_append, List.mem_singleton]; exact fun h => h.elim hm (fun h => e h.symm))])
      have HWl : Hid (∀ j, -1 ≤ whereT ts t j ∧ whereT ts t j ≤ 1048576) := hide (fun j => by
        have := ordT_le ts t
        have := HTk.out
        unfold whereT
        split <;> omega)
      have hob := ordT_le ts t
      rw [← HTk.out] at hob
      obtain ⟨T, hT⟩ : ∃ T : ByteArray, T = ⟨t.toArray⟩ := ⟨_, rfl⟩
      rw [← hT] at HFi ⊢
      have HT := hide hT
      obtain ⟨o, ho⟩ : ∃ x, x = ordT ts t := ⟨_, rfl⟩
      rw [← ho] at HFi HWe hob
      have HMm : Hid (t ∈ ts → o < tk) := hide (fun h => by rw [ho, HTk.out]; exact (ordT_mem HLt.out h).1)
      clear hlt hT ho
      go_wp2_with (fail)
      refine HFi.out.mono ?_
      rintro en w8 ⟨rfl, nq, hw8⟩
      have HF8 : Hid (Fr No wo w8) := hide (by rw [hw8]; exact (Fr.refl No wo).drewN nq)
      have HCol8 := hide (HColo.out.fr0 HF8.out)
      have HT8 := hide (HTo.out.fr0 HF8.out)
      obtain ⟨fk, hfk⟩ : ∃ x, x = (if t ∈ ts then o else 0) := ⟨_, rfl⟩
      obtain ⟨fb, hfb⟩ : ∃ x, x = decide (t ∈ ts) := ⟨_, rfl⟩
      rw [← hfk, ← hfb]
      have HFk := hide hfk
      have HFb := hide hfb
      have hfk2 : fk ≤ 1048576 := by rw [hfk]; split <;> omega
      clear hw8 HFi hfk hfb HColo HTo
      go_wp2_with (fail)
      go_loopw [19, 20] (fun v i wq => ∃ (j nq : Nat) (x : Int), j ≤ tk ∧ i = .int .i64 (j : Nat) ∧ v = .int .i64 x ∧ Hid (x = whereT ts t j) ∧ wq = w8.drewN nq) (fun _ i _ => tk - (intOf i).toNat)
      case atStart => exact ⟨0, 0, -1, by omega, by go_num, by go_num, hide HW0.out.symm, rfl⟩
      case round =>
        obtain ⟨j, nq, x, hj, rfl, rfl, HX, rfl⟩ := hrel
        by_cases hlj : j < tk
        · have hj1 : j < ts.length := by rw [← HTk.out]; exact hlj
          have HTm := hide (fun q => term_in (HCol8.out.fr0 ((((Fr.refl No w8).drewN nq)).drewN q)) hj1)
          obtain ⟨adt, hAt, _, hct⟩ := HT8.out.rd j (sv (ts.getD j [])) (svs_get hj1)
          subst hAt
          have hwn := HWn.out j hlj
          obtain ⟨s, hs⟩ : ∃ x, x = ts.getD j [] := ⟨_, rfl⟩
          rw [← hs] at HTm hct hwn
          unfold sv at HTm hct
          obtain ⟨X, hX⟩ : ∃ X : ByteArray, X = ⟨s.toArray⟩ := ⟨_, rfl⟩
          rw [← hX] at HTm hct
          have hXl : X.toList = s := by rw [hX]; exact tx_list s
          have hTl : T.toList = t := by rw [HT.out]; exact tx_list t
          have hne : (X.toList != X.toList) = false := by simp
          have heq1 : (X.toList == X.toList) = true := by simp
          obtain ⟨w9, hw9⟩ : ∃ W, W = w8.drewN nq := ⟨_, rfl⟩
          have hct2 : w9.cell? (adt.add j) = some (.string X) := by rw [hw9]; exact hct
          have HTm2 := hide (fun q => (show Calls Try.prog 30 #[.pointer (some ⟨G, 0, none⟩), .int .i64 (j : Nat)] (w9.drewN q) (RetQ (.string X) (w9.drewN q)) from by
            rw [hw9]
            exact (HTm.out q).mono (fun en w' h => by
              obtain ⟨h1, h2⟩ := h
              subst h2
              exact ⟨h1, 0, rfl⟩)))
          have HW9 := hide hw9
          rw [← hw9]
          clear hj1 hct hw9 HTm hX
          by_cases hst : s = t
          · rw [if_pos hst] at hwn
            have HWn' := hide hwn
            have heqT : (X.toList == T.toList) = true := by rw [hXl, hTl, hst]; simp
            clear hwn hst hXl hTl hs
            go_wp2
            go_quiet ((go_at_call 30; exact Calls.quiet_of (HTm2.out _)))
            go_wp2
            go_roundw
            case rel => exact ⟨j + 1, _, (j : Int), by omega, by go_num, by go_num, hide HWn'.out.symm, by rw [HW9.out]; exact World.drewN_drewN _ _ _⟩
            case measure => simp [intOf]; omega
          · rw [if_neg hst] at hwn
            have HWn' := hide hwn
            have heqT : (X.toList == T.toList) = false := by rw [hXl, hTl]; simpa using hst
            clear hwn hst hXl hTl hs
            go_wp2
            go_quiet ((go_at_call 30; exact Calls.quiet_of (HTm2.out _)))
            go_wp2
            go_roundw
            case rel => exact ⟨j + 1, _, x, by omega, by go_num, by go_num, hide (by rw [HWn'.out]; exact HX.out), by rw [HW9.out]; exact World.drewN_drewN _ _ _⟩
            case measure => simp [intOf]; omega
        · obtain rfl : j = tk := by omega
          have HF9 : Hid (Fr No w8 (w8.drewN nq)) := hide ((Fr.refl No w8).drewN nq)
          have HCol9 := hide (HCol8.out.fr0 HF9.out)
          obtain ⟨w9, hw9⟩ : ∃ W, W = w8.drewN nq := ⟨_, rfl⟩
          rw [← hw9] at HF9 HCol9 ⊢
          have HFw9 := hide (HFw.out.tr (HF8.out.tr HF9.out))
          have hxe := HX.out
          rw [HWe.out] at hxe
          clear hw9 hlj
          go_upto_region 33 with (fail)
          refine wp_named fun K hK => ?_
          go_cut [156] from 137 to 156 (fun v wx => v = .bool false ∧ w9 = wx)
          case first =>
            by_cases hm : t ∈ ts
            · have e1 := HFk.out
              have e2 := HFb.out
              rw [if_pos hm] at e1 hxe
              rw [decide_eq_true hm] at e2
              subst e1; subst e2; subst hxe
              have hoo : ((fk : Int) != (fk : Int)) = false := by simp
              have hoo2 : decide ((0 : Int) ≤ (fk : Int)) = true := decide_eq_true (by omega)
              clear hm HX
              go_wp2
              go_meet
              exact ⟨rfl, rfl⟩
            · have e1 := HFk.out
              have e2 := HFb.out
              rw [if_neg hm] at e1 hxe
              rw [decide_eq_false hm] at e2
              subst e1; subst e2; subst hxe
              clear hm HX
              go_wp2
              go_meet
              exact ⟨rfl, rfl⟩
          case rest =>
            obtain ⟨rfl, rfl⟩ := hcut
            refine hK _ _ ?_
            clear hK hxe HX HFk HFb HWe HWn HWl HW0
            have hE : ((ByteArray.mk #[]).toList == (ByteArray.mk #[]).toList) = true := by simp
            by_cases hz0 : 0 ≤ z
            · have d0 : decide (0 ≤ z) = true := decide_eq_true hz0
              by_cases hzk : z < (k : Int)
              · have d1 : decide (z < (k : Int)) = true := decide_eq_true hzk
                by_cases hzj : z < (j : Int)
                · have d2 : decide (z < (j : Int)) = true := decide_eq_true hzj
                  clear hz0 hzk hzj
                  go_wp2_with (fail)
                  go_ret
                  exact ⟨rfl, HFw9.out⟩
                · have d2 : decide (z < (j : Int)) = false := decide_eq_false hzj
                  have HTo := hide (term_out HCol9.out z (by rw [← HTk.out]; omega))
                  clear hz0 hzk hzj
                  go_wp2_with (go_at_call 30; refine HTo.out.mono ?_; rintro en w' ⟨rfl, rfl⟩)
                  go_ret
                  exact ⟨by simp, HFw9.out⟩
              · have d1 : decide (z < (k : Int)) = false := decide_eq_false hzk
                have HRo := hide (txRow_out HCol9.out z (by omega))
                have HOo := hide (ords_out HCol9.out z (by omega))
                by_cases hzj : z < (j : Int)
                · have d2 : decide (z < (j : Int)) = true := decide_eq_true hzj
                  clear hz0 hzk hzj
                  go_wp2_with (first
                    | (go_at_call 27; refine HRo.out.mono ?_; rintro en w' ⟨rfl, rfl⟩)
                    | (go_at_call 25; refine HOo.out.mono ?_; rintro en w' ⟨rfl, rfl⟩))
                  go_ret
                  exact ⟨by simp, HFw9.out⟩
                · have d2 : decide (z < (j : Int)) = false := decide_eq_false hzj
                  have HTo := hide (term_out HCol9.out z (by rw [← HTk.out]; omega))
                  clear hz0 hzk hzj
                  go_wp2_with (first
                    | (go_at_call 27; refine HRo.out.mono ?_; rintro en w' ⟨rfl, rfl⟩)
                    | (go_at_call 25; refine HOo.out.mono ?_; rintro en w' ⟨rfl, rfl⟩)
                    | (go_at_call 30; refine HTo.out.mono ?_; rintro en w' ⟨rfl, rfl⟩))
                  go_ret
                  exact ⟨by simp, HFw9.out⟩
            · have d0 : decide (0 ≤ z) = false := decide_eq_false hz0
              have HRo := hide (txRow_out HCol9.out z (by omega))
              have HOo := hide (ords_out HCol9.out z (by omega))
              have HTo := hide (term_out HCol9.out z (by omega))
              clear hz0
              go_wp2_with (first
                | (go_at_call 27; refine HRo.out.mono ?_; rintro en w' ⟨rfl, rfl⟩)
                | (go_at_call 25; refine HOo.out.mono ?_; rintro en w' ⟨rfl, rfl⟩)
                | (go_at_call 30; refine HTo.out.mono ?_; rintro en w' ⟨rfl, rfl⟩))
              go_ret
              exact ⟨by simp, HFw9.out⟩
end Go.Proofs.Ytnjcncidlhllmaa
