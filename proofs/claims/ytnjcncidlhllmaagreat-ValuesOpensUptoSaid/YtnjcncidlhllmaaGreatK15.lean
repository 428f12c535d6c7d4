/- Several texts in one: TexW, OffT. -/
import Derived.Test.YtnjcncidlhllmaaGreatK14
namespace Go.Proofs.YtnjcncidlhllmaaGreat
set_option linter.unusedVariables false
set_option linter.unusedSimpArgs false
open Go.RowKit

theorem GivesST.ok {w : World} {rows : RwT} {en : Ending} {w' : World} (h : GivesST w rows en w') (hok : okR rows) : ∃ A c vals, en = .returned (.tuple #[.slice A rows.length c, .bool true]) ∧ Own w' w.heap.size 43 1 (.slice A rows.length c) rows.length vals ∧ ValsT w' w.heap.size vals (sortR rows) ∧ Fr No w w' := by
  obtain ⟨⟨_, A, c, vals, rfl, ho, hv⟩ | ⟨h, _⟩, hf⟩ := h
  · exact ⟨A, c, vals, rfl, ho, hv, hf⟩
  · exact absurd hok h
theorem GivesST.bad {w : World} {rows : RwT} {en : Ending} {w' : World} (h : GivesST w rows en w') (hok : ¬ okR rows) : en = .returned (.tuple #[.slice none 0 0, .bool false]) ∧ Fr No w w' := by
  obtain ⟨⟨h, _⟩ | ⟨_, e⟩, hf⟩ := h
  · exact absurd h hok
  · exact ⟨e, hf⟩
theorem ValsT.at {w : World} {base i : Nat} {vals : List Value} {bss : List (List Tx)} {l : List Tx} (h : ValsT w base vals bss) (hi : bss[i]? = some l) : ∃ A c, vals[i]? = some (.slice A l.length c) ∧ l.length ≤ c ∧ c ≤ maxLen ∧ Own w base 9 1 (.slice A l.length c) l.length (svs l) := by
  have hil := (List.getElem?_eq_some_iff.1 hi).1
  have hv : vals[i]? = some (vals[i]'(by rw [h.len]; exact hil)) := List.getElem?_eq_getElem _
  have ho := h.own i _ _ hv hi
  obtain ⟨A, c, e, h1, h2, _⟩ := ho.form
  rw [e] at hv ho
  exact ⟨A, c, hv, h1, h2, ho⟩
theorem make_ords (k : Nat) (hk : k ≤ 16384) (W : World) : (Instr.makeSlice 22 (.int .i64 (k : Nat)) (.int .i64 (k : Nat))).run Tryz.prog W = .ok (.slice (some ⟨W.heap.size, 0, none⟩) k k) (W.alloc (.cells (madeCells #[.slice none 0 0] k) 41)) := by
  obtain ⟨i0, hi, hz, hsz, hby⟩ := info_parts Tryz.infoRI
  have h := run_make (P := Tryz.prog) W 22 41 i0 (.slice none 0 0) Tryz.underlying22 hi hz .i64 .i64 (k : Int) (k : Int) (by omega) (by omega) (by rw [hby]; omega) (by omega)
  rw [Int.toNat_natCast, hsz, Nat.mul_one] at h
  exact h
theorem ValsI.nils (w : World) (base n : Nat) : ValsI w base (List.replicate n (.slice none 0 0)) (List.replicate n []) := by
  refine ⟨by simp, fun j v bs hv hb => ?_, fun i j vi vj _ hi hj k hk => ?_⟩
  · have h1 := List.eq_of_mem_replicate (List.mem_of_getElem? hv)
    have h2 := List.eq_of_mem_replicate (List.mem_of_getElem? hb)
    subst h1; subst h2
    exact Own.nil _ _ _ _
  · have h1 := List.eq_of_mem_replicate (List.mem_of_getElem? hi)
    subst h1
    cases hk
theorem ValsI.at {w : World} {base i : Nat} {vals : List Value} {bss : List (List Int)} {l : List Int} (h : ValsI w base vals bss) (hi : bss[i]? = some l) : ∃ A c, vals[i]? = some (.slice A l.length c) ∧ l.length ≤ c ∧ c ≤ maxLen ∧ Own w base 2 1 (.slice A l.length c) l.length (iz .i64 l) := by
  have hil := (List.getElem?_eq_some_iff.1 hi).1
  have hv : vals[i]? = some (vals[i]'(by rw [h.len]; exact hil)) := List.getElem?_eq_getElem _
  have ho := h.own i _ _ hv hi
  obtain ⟨A, c, e, h1, h2, _⟩ := ho.form
  rw [e] at hv ho
  exact ⟨A, c, hv, h1, h2, ho⟩
theorem ordsV_take {ts l : List Tx} {j : Nat} (h : j < (setT l).length) : (ordsV ts l).take (j + 1) = (ordsV ts l).take j ++ [((ordT ts ((setT l).getD j []) : Nat) : Int)] := by
  unfold ordsV
  rw [← List.map_take, take_getD [] h, List.map_append, List.map_take]
  rfl
theorem formV_leT {rows : Rw} (h : okV rows) (hi : ∀ l ∈ rows, InI l) : (formV rows).length ≤ 20000000 := by
  have h1 := (enc_len rows.length).2
  have h2 := bitsV_len rows
  have h3 := putV_le (lensV_in h)
  have h4 := putV_le (allV_in hi)
  have h5 := allV_le h
  have h6 := lensV_len rows
  have h7 := filV_le rows
  have h8 := h.1
  rw [formV]
  simp only [List.length_append]
  omega
set_option maxRecDepth 100000 in
set_option maxHeartbeats 8000000 in
theorem texts12_any (A : Option Addr) (n c B : Nat) (rows : RwT) (w : World) (hl : rows.length = n) (hn : n ≤ c) (hc : c ≤ maxLen) (hB : B ≤ w.heap.size) (hr : TSl w B A rows) :
    Calls Tryz.prog 12 #[.slice A n c] w (GivesB w (keptT rows)) := by
  have HC := hide (sortedT_any A n c B rows w hl hn hc hB hr)
  have HL := hide hl
  clear hr hl
  unfold maxLen at hc
  by_cases hok : ¬ okR rows
  · have HNo : Hid (keptT rows = []) := hide (by rw [keptT, if_neg (fun h => hok h.1)])
    go_enter Tryz.func12, Tryz.ntmps12
    go_wp2_with (go_at_call 41; refine HC.out.mono ?_; intro e1 w1 hg; obtain ⟨rfl, hf⟩ := hg.bad hok; have HF := hide hf; clear hf hg)
    go_ret
    refine ⟨_, rfl, ?_, HF.out⟩
    rw [HNo.out]
    exact Own.nil _ _ _ _
  replace hok := Decidable.not_not.1 hok
  obtain ⟨is, his, hzs, hszs, hbys⟩ := info_parts Tryz.infoS
  have HOk := hide hok
  have hnb : n ≤ 16384 := by rw [← HL.out]; exact hok.1
  go_enter Tryz.func12, Tryz.ntmps12
  go_wp2_with (fail)
  refine HC.out.mono ?_
  intro e1 w1 hg
  obtain ⟨A1, c1, vals1, rfl, ho1, hv1, hf1⟩ := hg.ok hok
  rw [HL.out] at ho1 ⊢
  obtain ⟨q1, q2⟩ := ho1.le.2
  have HF1 := hide hf1
  have HO1 := hide ho1
  have HV1 := hide (show ValsT w1 w.heap.size vals1 (mixR rows 0) by rw [mixR_zero]; exact hv1)
  have HB1 : Hid (∀ (j : Nat) v, vals1[j]? = some v → ∀ b, v.ownBlock = some b → b < w1.heap.size) := hide (fun j v hj b hb => by
    obtain ⟨_, _, ho⟩ := hv1.get hj
    exact (ho.lt b hb).2)
  unfold maxLen at q2
  clear hg hf1 ho1 hv1 hok HC
  go_wp2_with (fail)
  go_loopw [5, 25] (fun vt i wr => ∃ (k tn : Nat) (vals : List Value), k ≤ n ∧ i = .int .i64 (k : Nat) ∧ tn ≤ 64 * k ∧ Hid (Fr No w wr) ∧ Hid (w1.heap.size ≤ wr.heap.size) ∧ Hid (Own wr w.heap.size 43 1 (.slice A1 n c1) n vals) ∧ Hid (ValsT wr w.heap.size vals (mixR rows k)) ∧
    Hid (∀ (j : Nat) v, vals[j]? = some v → ∀ b, v.ownBlock = some b → b < w1.heap.size) ∧ Hid (tn = ((rows.take k).map setT).flatten.length) ∧ Hid (Own wr w1.heap.size 9 1 vt tn (svs ((rows.take k).map setT).flatten))) (fun _ i _ => n - (intOf i).toNat)
  case atStart => exact ⟨0, 0, vals1, by omega, by go_num, by omega, HF1, hide (Nat.le_refl _), HO1, HV1, HB1, hide (by simp), hide (by rw [List.take_zero]; exact Own.nil _ _ _ _)⟩
  case round =>
    clear HO1 HV1 HB1
    obtain ⟨k, tn, vals, hk, rfl, htn, HF, HZ, HO, HV, HB, HTn, HT⟩ := hrel
    by_cases hlt : k < n
    · have hk1 : k < rows.length := by rw [HL.out]; exact hlt
      obtain ⟨Ak, ck, hvk, x1, x2, hok⟩ := HV.out.at (mixR_at hk1)
      rw [sortT_len] at hvk x1 hok
      obtain ⟨G, hA1, hG1, hG2, -⟩ := HO.out.store hlt
      subst hA1
      obtain ⟨hcell, hfz, -⟩ := HO.out.st hlt
      rw [hvk] at hcell
      have HCm := hide (compactT_any w.heap.size _ ck Ak _ _ hok (by have := HOk.out.2 _ (getD_memR hk1); omega))
      have hset : (Lib.compact (sortT (rows.getD k []))) = setT (rows.getD k []) := rfl
      rw [hset] at HCm
      have hsl := setT_le (rows.getD k [])
      have hr64 : (rows.getD k []).length ≤ 64 := HOk.out.2 _ (getD_memR hk1)
      obtain ⟨lk, hlk⟩ : ∃ x, x = (rows.getD k []).length := ⟨_, rfl⟩
      obtain ⟨st, hst⟩ : ∃ x, x = setT (rows.getD k []) := ⟨_, rfl⟩
      obtain ⟨sl, hsl'⟩ : ∃ x, x = st.length := ⟨_, rfl⟩
      rw [← hlk] at hvk x1 hok hcell HCm hsl hr64
      rw [← hst] at HCm hsl
      rw [← hsl'] at HCm hsl
      have HVk := hide hvk
      have HOk1 := hide hok
      have HSt := hide hst
      have HSl := hide hsl'
      have HK1 := hide hk1
      unfold maxLen at x2
      clear hvk hok hlk hst hsl' hk1 hset
      go_upto_region 9 with (go_at_call 42; refine HCm.out.mono ?_; rintro en w2 ⟨rfl, ho2, hf2⟩; have HO2 := hide ho2; have HF2 := hide hf2; have hq := HO.out.fr hf2 (fun i hi e => HO.out.apart HOk1.out (by decide) i hi e); have cC : w2.cell? ⟨G, k, none⟩ = some (.slice Ak lk ck) := (by rw [(hq.st hlt).1]; exact HVk.out); have fC : w2.frozen? ⟨G, k, none⟩ = false := (hq.st hlt).2.1; have HQ := hide hq; clear ho2 hf2 hq hcell hfz)
      obtain ⟨w3, hw3⟩ : ∃ x, x = w2.setCell ⟨G, k, none⟩ (.slice Ak sl ck) := ⟨_, rfl⟩
      have hf3 : Fr (fun i => (Value.slice (some ⟨G, 0, none⟩) n c1).ownBlock = some i) w2 w3 := by rw [hw3]; exact Fr.putO w2 G k n c1 _
      have hq3 := (HQ.out.st hlt).2.2 (.slice Ak sl ck)
      rw [← hw3] at hq3
      have hkv := (List.getElem?_eq_some_iff.1 HVk.out).1
      have cL : w3.cell? ⟨G, k, none⟩ = some (.slice Ak sl ck) := by rw [(hq3.st hlt).1, List.getElem?_set_self hkv]
      have ho3 := HO2.out.fr hf3 (fun i hi e => HO2.out.apart HQ.out (by decide) i hi e)
      have hv2 := HV.out.put (v' := .slice Ak sl ck) (bs' := st) HVk.out HF2.out (by rw [← HSl.out]; exact HO2.out) (.inl (by cases Ak <;> rfl))
      rw [HSt.out, mixR_set HK1.out] at hv2
      have hv3 := hv2.other HQ.out (by decide) hf3
      have hb3 : ∀ (j : Nat) v, (vals.set k (.slice Ak sl ck))[j]? = some v → ∀ b, v.ownBlock = some b → b < w1.heap.size := fun j v hj b hb => by
        by_cases e : j = k
        · subst e
          rw [List.getElem?_set_self hkv] at hj
          injection hj with hj
          subst hj
          exact HB.out j _ HVk.out b (by rw [← hb]; cases Ak <;> rfl)
        · rw [List.getElem?_set_ne (fun h => e h.symm)] at hj
          exact HB.out j v hj b hb
      have ht2 := HT.out.fr HF2.out (fun i hi e => by have a1 := (HT.out.lt i hi).1; have a2 := HB.out k _ HVk.out i e; omega)
      have ht3 := ht2.fr hf3 (fun i hi e => ht2.apart HQ.out (by decide) i hi e)
      have hF3 : Fr No w w3 := (HF.out.trans HF2.out (fun i hi e => by have := (HOk1.out.lt i e).1; omega)).trans hf3 (fun i hi e => by have := (HQ.out.lt i e).1; omega)
      have hz3 : w1.heap.size ≤ w3.heap.size := by have := HZ.out; have := HF2.out.size; have := hf3.size; omega
      have HS := hide (Src.ofRd (P := Tryz.prog) (size := 1) w3 Tryz.underlying43 Ak sl ck (svs st) (by rw [svs_len, HSl.out, Nat.mul_one]) (by omega) ho3.rd (svs_one _))
      have HQ3 := hide hq3
      have HV3 := hide hv3
      have HB3 := hide hb3
      have HT3 := hide ht3
      have HF3 := hide hF3
      have hfl : ((rows.take (k + 1)).map setT).flatten = ((rows.take k).map setT).flatten ++ st := by rw [take_getDR HK1.out, HSt.out]; simp
      have HFl := hide hfl
      have b1 : (tn + sl) * 16 ≤ 140737488355328 := by omega
      have b2 : tn + sl ≤ maxLen := by unfold maxLen; omega
      rw [← hw3]
      clear hw3 hf3 hq3 ho3 hv2 hv3 hb3 ht2 ht3 hF3 hfl cC fC HQ HO HV HB HT HF HF2 HO2 HCm
      go_wp2_with (at_builtin; refine wpList_append_gen _ rfl (.tmp 36) (.tmp 40) 43 43 rfl w1.heap.size 9 is (.string ⟨#[]⟩) 1 16 Tryz.underlying43 his hzs hszs hbys rfl u5 tn _ rfl HT3.out _ sl (svs st) rfl HS.out b1 b2 hz3 ?_; intro v5 w5 hown hfr hat; have HO5 := hide hown; have HFa := hide hfr; clear hown hfr hat)
      go_roundw
      case rel =>
        refine ⟨k + 1, tn + sl, vals.set k (.slice Ak sl ck), by omega, by go_num, by omega, hide (HF3.out.own HFa.out (fun g hg => .inl (by have := (HT3.out.lt g hg).1; have := HF1.out.size; omega))), hide (Nat.le_trans hz3 HFa.out.size), hide (HQ3.out.fr HFa.out (fun i hi e => HQ3.out.apart HT3.out (by decide) i hi e)), hide (HV3.out.fr HFa.out (fun j v hj i hi e => by have := HB3.out j v hj i hi; have := (HT3.out.lt i e).1; omega)), HB3, hide ?_, hide ?_⟩
        · rw [HFl.out, List.length_append, ← HTn.out, ← HSl.out]
        · rw [HFl.out]
          have h := HO5.out
          rwa [← svs_app] at h
      case measure => simp [intOf]; omega
    · obtain rfl : k = n := by omega
      have htk : rows.take k = rows := List.take_of_length_le (by rw [HL.out]; omega)
      rw [mixR_all (by rw [HL.out]; omega)] at HV
      rw [htk] at HTn HT
      obtain ⟨At, ct, rfl, y1, y2, -⟩ := HT.out.form
      have HSo := hide (sortT_any w1.heap.size tn ct At _ wr HT.out (by omega))
      have HTlt : Hid (∀ i, (Value.slice At tn ct).ownBlock = some i → w1.heap.size ≤ i) := hide (fun i hi => (HT.out.lt i hi).1)
      have HTap : Hid (∀ i, (Value.slice (some ⟨0, 0, none⟩) k c1).ownBlock = some i → True) := hide (fun _ _ => trivial)
      unfold maxLen at y2
      clear htk HTap hlt
      go_wp2_with (fail)
      refine HSo.out.mono ?_
      rintro en w5 ⟨rfl, ho5, hf5⟩
      have HQ5 := hide (HO.out.fr hf5 (fun i hi e => HO.out.apart HT.out (by decide) i hi e))
      have HV5 := hide (HV.out.fr hf5 (fun j v hj i hi e => by have := HB.out j v hj i hi; have := HTlt.out i e; omega))
      have HF5 := hide (HF.out.trans hf5 (fun i hi e => by have := HTlt.out i e; have := HF1.out.size; omega))
      have HCm := hide (compactT_any w1.heap.size tn ct At _ w5 ho5 (by omega))
      have hset : Lib.compact (sortT ((rows.map setT).flatten)) = termsV rows := termsV_sets rows
      rw [hset] at HCm
      have htl := termsV_le HOk.out
      obtain ⟨ts, hts⟩ : ∃ x, x = termsV rows := ⟨_, rfl⟩
      obtain ⟨tk, htk⟩ : ∃ x, x = ts.length := ⟨_, rfl⟩
      rw [← hts] at HCm htl
      rw [← htk] at HCm htl
      have HTs := hide hts
      have HTk := hide htk
      have HZ5 := hide (Nat.le_trans HZ.out hf5.size)
      have HO5 := hide ho5
      clear hset hts htk hf5 ho5 HSo HO HV HF HT HZ
      go_wp2_with (fail)
      refine HCm.out.mono ?_
      rintro en w6 ⟨rfl, ho6, hf6⟩
      have HQ6 := hide (HQ5.out.fr hf6 (fun i hi e => HQ5.out.apart HO5.out (by decide) i hi e))
      have HV6 := hide (HV5.out.fr hf6 (fun j v hj i hi e => by have := HB.out j v hj i hi; have := HTlt.out i e; omega))
      have HF6 := hide (HF5.out.trans hf6 (fun i hi e => by have := HTlt.out i e; have := HF1.out.size; omega))
      have HT6 := hide ho6
      have HZ6 := hide (Nat.le_trans HZ5.out hf6.size)
      have hk6 := ho6.le.2.1
      have HP := hide (putU_any none 0 0 0 [] tk w6 rfl (Nat.le_refl _) (Nat.zero_le _) (by decide) (Nat.zero_le _) (Rd.nil _ _ _) (by omega))
      rw [List.nil_append] at HP
      clear hf6 ho6 HCm HQ5 HV5 HF5 HO5 HZ5 HTlt
      go_wp2_with (fail)
      refine HP.out.mono ?_
      rintro en w7 ⟨v7, rfl, ho7, hf7⟩
      have he10 := enc_le tk
      obtain ⟨en, hen⟩ : ∃ x, x = (enc tk).length := ⟨_, rfl⟩
      rw [← hen] at ho7 he10
      have HEn := hide hen
      have HF67 := hide hf7
      have HO7 := hide ho7
      clear ho7 hf7 hen HP
      obtain ⟨i5, hi5, hz5, hsz5, hby5⟩ := info_parts Tryz.info5
      go_wp2_with (fail)
      go_loopw [7, 53] (fun vb i wr => ∃ (j bn : Nat), j ≤ tk ∧ i = .int .i64 (j : Nat) ∧ bn ≤ 10 + 266 * j ∧ Hid (Fr No w6 wr) ∧ Hid (bn = (enc tk ++ txts (ts.take j)).length) ∧ Hid (∀ t ∈ ts.take j, t.length ≤ 256) ∧ Hid (Own wr w6.heap.size 5 1 vb bn (by8 (enc tk ++ txts (ts.take j))))) (fun _ i _ => tk - (intOf i).toNat)
      case atStart => exact ⟨0, en, by omega, by go_num, by omega, HF67, hide (by simp [txts, HEn.out]), hide (fun t ht => by rw [List.take_zero] at ht; cases ht), hide (by simpa [txts] using HO7.out)⟩
      case round =>
        clear HO7 HF67
        obtain ⟨j, bn, hj, rfl, hbn, HFj, HBn, HTx, HOj⟩ := hrel
        by_cases hlt : j < tk
        · have hj1 : j < ts.length := by rw [← HTk.out]; exact hlt
          obtain ⟨adt, X, hAt, _, hcell, hX, _, hXs⟩ := cellStr (HT6.out.fr0 HFj.out).rd hj1
          subst hAt
          obtain ⟨t, htt⟩ : ∃ x, x = ts.getD j [] := ⟨_, rfl⟩
          rw [← htt] at hX hXs
          have HTt := hide htt
          have htm : t ∈ termsV rows := by rw [← HTs.out, htt]; exact getD_mem hj1
          have hsn : ts.take (j + 1) = ts.take j ++ [t] := by rw [htt]; exact take_getD [] hj1
          have HSn := hide hsn
          have HTm := hide htm
          obtain ⟨xl, hxl⟩ : ∃ x, x = X.size := ⟨_, rfl⟩
          have HXl := hide hxl
          have HXs := hide hXs
          rw [← hxl] at hXs
          by_cases hbig : 256 < xl
          · have HNo : Hid (keptT rows = []) := hide (by
              rw [keptT, if_neg]
              intro h
              obtain ⟨l, hl, ht⟩ := (termsV_mem rows t).1 HTm.out
              have := h.2 l hl t ht
              omega)
            have d0 : decide (256 < xl) = true := decide_eq_true hbig
            have d1 : decide ((256 : Int) < (xl : Int)) = true := decide_eq_true (by omega)
            rw [hxl] at d0 d1 hbig
            clear hX htt hXs htm hsn hj1 hxl
            go_wp2
            go_ret
            refine ⟨_, rfl, ?_, HF6.out.tr HFj.out⟩
            rw [HNo.out]
            exact Own.nil _ _ _ _
          · have hpt := putText_any none 0 0 0 [] X wr rfl (Nat.le_refl _) (Nat.zero_le _) (by omega) (Nat.zero_le _) (Rd.nil _ _ _)
            have htx : ([] : List UInt8) ++ enc X.size ++ X.data.toList = txt t := by rw [List.nil_append, txt, hX, ← hxl, hXs]
            rw [htx] at hpt
            obtain ⟨pl, hpl⟩ : ∃ x, x = (txt t).length := ⟨_, rfl⟩
            have hpl2 : pl ≤ 266 := by
              have := enc_le t.length
              rw [hpl, txt, List.length_append]
              omega
            have HPl := hide hpl
            have HPt := hide hpt
            have b1 : (bn + pl) * 1 ≤ 140737488355328 := by omega
            have b2 : bn + pl ≤ maxLen := by unfold maxLen; omega
            have HTx' : Hid (∀ s ∈ ts.take (j + 1), s.length ≤ 256) := hide (fun s hs => by
              rw [HSn.out] at hs
              rcases List.mem_append.1 hs with hs | hs
              · exact HTx.out s hs
              · rw [List.mem_singleton.1 hs]; omega)
            have d0 : decide (256 < xl) = false := decide_eq_false hbig
            have d1 : decide ((256 : Int) < (xl : Int)) = false := decide_eq_false (by omega)
            rw [hxl] at d0 d1 hbig
            clear hX htt hXs htm hsn hj1 hxl hpt htx hpl HTx hpl2
            go_wp2_with (first
              | (go_at_call 45; refine HPt.out.mono ?_; rintro en w8 ⟨v8, rfl, hown, hfr⟩; rw [← HPl.out] at hown; obtain ⟨A8, c8, rfl, p1, p2, _, p3, _⟩ := hown.form; have HS8 := hide (Src.ofRd (P := Tryz.prog) (size := 1) w8 Tryz.underlying25 A8 pl c8 (by8 (txt t)) (by rw [by8_length, ← HPl.out, Nat.mul_one]) (by omega) p3 (by8_one _)); have HOj8 := hide (HOj.out.fr0 hfr); have HF8 := hide (HFj.out.tr hfr); have hz8 : w6.heap.size ≤ w8.heap.size := (HFj.out.tr hfr).size; unfold maxLen at p2; clear hown hfr p3)
              | (at_builtin; refine wpList_append_gen _ rfl (.tmp 60) (.tmp 62) 25 25 rfl w6.heap.size 5 i5 (.int .u8 0) 1 1 Tryz.underlying25 hi5 hz5 hsz5 hby5 rfl u7 bn _ rfl HOj8.out _ pl (by8 (txt t)) rfl HS8.out b1 b2 hz8 ?_; intro v9 w9 hown hfr hat; have HO9 := hide hown; have HFa := hide hfr; clear hown hfr hat))
            go_roundw
            case rel =>
              refine ⟨j + 1, bn + pl, by omega, by go_num, by have := HPl.out; have := enc_le t.length; have := HXs.out; rw [txt, List.length_append] at *; omega, hide (HF8.out.own HFa.out (fun g hg => .inl (HOj8.out.lt g hg).1)), hide ?_, HTx', hide ?_⟩
              · rw [HSn.out, txts_snoc, ← List.append_assoc, List.length_append, ← HBn.out, ← HPl.out]
              · rw [HSn.out, txts_snoc, ← List.append_assoc, by8_append]
                exact HO9.out
            case measure => simp [intOf]; omega
        · obtain rfl : j = tk := by omega
          have htk : ts.take j = ts := List.take_of_length_le (by rw [HTk.out]; omega)
          rw [htk] at HBn HTx HOj
          obtain ⟨wm, rfl⟩ : ∃ wo : World, wo = wr := ⟨_, rfl⟩
          have HMk := hide (make_ords k (by omega))
          have hmk := fun W => HMk.out W
          have HOkT : Hid (okT rows) := hide ⟨HOk.out, fun l hl t ht => HTx.out t (by rw [HTs.out]; exact (termsV_mem rows t).2 ⟨l, hl, ht⟩)⟩
          clear htk hlt HTx
          go_wp2
          obtain ⟨G8, hG8⟩ : ∃ x, x = wm.heap.size := ⟨_, rfl⟩
          obtain ⟨w8, hw8⟩ : ∃ x, x = wm.alloc (.cells (madeCells #[.slice none 0 0] k) 41) := ⟨_, rfl⟩
          rw [← hw8, ← hG8]
          have ho8 := made_own wm k 41 (.slice none 0 0) _ rfl (by unfold maxLen; omega)
          rw [← hw8, ← hG8] at ho8
          have hf8 : Fr No wm w8 := by rw [hw8]; exact (Fr.refl No wm).alloc _
          have HF8 := hide hf8
          have HO8 := hide ho8
          have HG8 := hide hG8
          have HV8 : Hid (ValsI w8 G8 (List.replicate k (.slice none 0 0)) (mixO rows ts 0)) := hide (by rw [mixO_zero, HL.out]; exact ValsI.nils _ _ _)
          clear hw8 hG8 ho8 hf8 hmk HMk
          obtain ⟨i2, hi2, hz2, hsz2, hby2⟩ := info_parts Tryz.infoKI64
          go_loopw [70] (fun i wq => ∃ (m : Nat) (vo : List Value), m ≤ k ∧ i = .int .i64 (m : Nat) ∧ Hid (Fr No wm wq) ∧ Hid (Own wq G8 41 1 (.slice (some ⟨G8, 0, none⟩) k k) k vo) ∧ Hid (ValsI wq G8 vo (mixO rows ts m))) (fun i _ => k - (intOf i).toNat)
          case atStart => exact ⟨0, _, by omega, by go_num, HF8, HO8, HV8⟩
          case round =>
            clear HF8 HO8 HV8
            obtain ⟨m, vo, hm, rfl, HFm, HOm, HVm⟩ := hrel
            obtain ⟨wq, rfl⟩ : ∃ wo : World, wo = wr := ⟨_, rfl⟩
            by_cases hlt : m < k
            · have hm1 : m < rows.length := by rw [HL.out]; exact hlt
              obtain ⟨Ai, ci, hvi, x1, x2, hoi⟩ := HV6.out.at (i := m) (l := setT (rows.getD m [])) (by rw [List.getElem?_map, List.getElem?_eq_getElem hm1, List.getD, List.getElem?_eq_getElem hm1]; rfl)
              obtain ⟨G, hA1, hG1, hG2, -⟩ := HQ6.out.store hlt
              subst hA1
              have hcell := (HQ6.out.st hlt).1
              rw [hvi] at hcell
              have f6 : Fr No w6 wq := HFj.out.tr HFm.out
              have hcell := f6.cell hcell (fun h => h)
              have hsl64 : (setT (rows.getD m [])).length ≤ 64 := Nat.le_trans (setT_le _) (HOk.out.2 _ (getD_memR hm1))
              have hsub : ∀ t ∈ setT (rows.getD m []), t ∈ ts := fun t ht => by
                rw [HTs.out]
                exact (termsV_mem rows t).2 ⟨_, getD_memR hm1, (setT_mem _ _).1 ht⟩
              have hov : ∀ j, j < (setT (rows.getD m [])).length → (ordsV ts (rows.getD m [])).take (j + 1) = (ordsV ts (rows.getD m [])).take j ++ [((ordT ts ((setT (rows.getD m [])).getD j []) : Nat) : Int)] := fun j hj => ordsV_take hj
              have hol : (ordsV ts (rows.getD m [])).length = (setT (rows.getD m [])).length := ordsV_len _ _
              have hms := mixO_set (ts := ts) hm1
              have hmi : (mixO rows ts m).set m [] = mixO rows ts m := by
                have h := mixO_at (ts := ts) hm1
                apply List.ext_getElem?
                intro q
                by_cases e : q = m
                · subst e
                  rw [List.getElem?_set_self ((List.getElem?_eq_some_iff.1 h).1), h]
                · rw [List.getElem?_set_ne (fun h => e h.symm)]
              have hmlen : (mixO rows ts m).length = k := by rw [mixO_len rows ts (Nat.le_of_lt hm1), HL.out]
              obtain ⟨st, hst⟩ : ∃ x, x = setT (rows.getD m []) := ⟨_, rfl⟩
              obtain ⟨ov, hov'⟩ : ∃ x, x = ordsV ts (rows.getD m []) := ⟨_, rfl⟩
              obtain ⟨sl, hsl⟩ : ∃ x, x = st.length := ⟨_, rfl⟩
              rw [← hst] at hcell x1 hoi hsl64 hsub hov hol
              rw [← hov'] at hov hol hms
              rw [← hsl] at hcell x1 hoi hsl64 hov hol
              have HOi := hide hoi
              have HSub := hide hsub
              have HOv := hide hov
              have HOl := hide hol
              have HSl := hide hsl
              have HMs := hide hms
              have HMi := hide hmi
              have HMl := hide hmlen
              unfold maxLen at x2
              clear hm1 hvi f6 hst hov' hsl hoi hsub hov hol hms hmi hmlen
              go_wp2
              go_loopw [78] (fun i wp => ∃ (q : Nat) (vp : List Value), q ≤ sl ∧ i = .int .i64 (q : Nat) ∧ Hid (Fr No wm wp) ∧ Hid (Own wp G8 41 1 (.slice (some ⟨G8, 0, none⟩) k k) k vp) ∧ Hid (ValsI wp G8 vp ((mixO rows ts m).set m (ov.take q)))) (fun i _ => sl - (intOf i).toNat)
              case atStart => exact ⟨0, vo, by omega, by go_num, HFm, HOm, hide (by rw [List.take_zero, HMi.out]; exact HVm.out)⟩
              case round =>
                obtain ⟨q, vp, hq, rfl, HFq, HOq, HVq⟩ := hrel
                obtain ⟨wp, rfl⟩ : ∃ wo : World, wo = wr := ⟨_, rfl⟩
                by_cases hlq : q < sl
                · have hq1 : q < st.length := by rw [← HSl.out]; exact hlq
                  obtain ⟨adq, hAi, _, hct⟩ := (HOi.out.fr0 (HFj.out.tr HFq.out)).rd q (sv (st.getD q [])) (svs_get hq1)
                  subst hAi
                  have hmem := HSub.out _ (getD_mem hq1)
                  have hnext := HOv.out q hlq
                  obtain ⟨t, ht⟩ : ∃ x, x = st.getD q [] := ⟨_, rfl⟩
                  rw [← ht] at hct hmem hnext
                  unfold sv at hct
                  have HSe := hide (searchT_any w1.heap.size j ct At ts t wp (HT6.out.fr0 (HFj.out.tr HFq.out)) (by omega) (by rw [HTs.out]; exact termsV_lt rows))
                  rw [decide_eq_true hmem] at HSe
                  have hol := ordT_le ts t
                  obtain ⟨o, ho⟩ : ∃ x, x = ordT ts t := ⟨_, rfl⟩
                  rw [← ho] at HSe hol hnext
                  have hojl : ts.length = j := HTk.out.symm
                  rw [hojl] at hol
                  obtain ⟨Ao, co, hvo, y5, y6, hoo⟩ := HVq.out.at (i := m) (l := ov.take q) (by rw [List.getElem?_set_self (by rw [HMl.out]; exact hlt)])
                  have htl : (ov.take q).length = q := by rw [List.length_take, HOl.out]; omega
                  rw [htl] at hvo y5 hoo
                  have hcO := (HOq.out.st hlt).1
                  rw [hvo] at hcO
                  have HVo := hide hvo
                  have HOo := hide hoo
                  have HNx := hide hnext
                  have HCO := hide hcO
                  unfold maxLen at y6
                  clear hq1 hmem hnext ht ho hvo hoo htl hcO hojl
                  have b1 : (q + 1) * 8 ≤ 140737488355328 := by omega
                  have b2 : q + 1 ≤ maxLen := by unfold maxLen; omega
                  go_upto_region 29 with (go_at_call 46; refine HSe.out.mono ?_; rintro en w10 ⟨rfl, nq, hw10⟩; have hf10 : Fr No wp w10 := (by rw [hw10]; exact (Fr.refl No wp).drewN nq); have HF10 := hide hf10; clear hw10 hf10)
                  have HOA := hide ((HOo.out.fr0 HF10.out).fr0 ((Fr.refl No w10).alloc (.cells #[.int .i64 (o : Nat)] 2)))
                  have HQA := hide ((HOq.out.fr0 HF10.out).fr0 ((Fr.refl No w10).alloc (.cells #[.int .i64 (o : Nat)] 2)))
                  have HVA := hide ((HVq.out.fr0 HF10.out).fr0 ((Fr.refl No w10).alloc (.cells #[.int .i64 (o : Nat)] 2)))
                  have HFA := hide ((HFq.out.tr HF10.out).alloc (.cells #[.int .i64 (o : Nat)] 2))
                  have hcO : w10.cell? ⟨G8, m, none⟩ = some (.slice Ao q co) := HF10.out.cell HCO.out (fun h => h)
                  have hz3 : G8 ≤ (w10.alloc (.cells #[.int .i64 (o : Nat)] 2)).heap.size := by rw [HG8.out]; exact HFA.out.size
                  have HS := hide (Src.one (P := Tryz.prog) w10 (e := 2) Tryz.underlying41 (.int .i64 (o : Nat)) rfl)
                  go_wp2_with (at_builtin; refine wpList_append_two _ rfl (.tmp 93) (.tmp 95) 41 41 rfl G8 2 i2 (.int .i64 0) 1 8 Tryz.underlying41 hi2 hz2 hsz2 hby2 rfl (.slice Ao q co) q _ rfl HOA.out _ 1 [.int .i64 (o : Nat)] rfl HS.out b1 b2 hz3 ?_; intro v12 w12 hown hor; have hfr := hor.elim (fun h => h.2) (fun h => h.2.any _); obtain ⟨A12, c12, rfl, p1, p2, -⟩ := hown.form; have hq12 := HQA.out.fr hfr (fun i hi e => HQA.out.apart HOA.out (by decide) i hi e); have cS : w12.cell? ⟨G8, m, none⟩ = some (.slice Ao q co) := (by rw [(hq12.st hlt).1]; exact HVo.out); have fS : w12.frozen? ⟨G8, m, none⟩ = false := (hq12.st hlt).2.1; have HO12 := hide hown; have HOr := hide hor; have HF12 := hide hfr; have HQ12 := hide hq12; unfold maxLen at p2; clear hown hor hfr hq12)
                  go_roundw
                  case rel =>
                    have hbk : (Value.slice A12 (q + 1) c12).ownBlock = (Value.slice Ao q co).ownBlock ∨ (Value.slice A12 (q + 1) c12).ownBlock = some (w10.alloc (.cells #[.int .i64 (o : Nat)] 2)).heap.size := HOr.out.elim (fun h => .inl h.1) (fun h => .inr h.1)
                    have hfs : Fr (fun i => (Value.slice (some ⟨G8, 0, none⟩) k k).ownBlock = some i) w12 (w12.setCell ⟨G8, m, none⟩ (.slice A12 (q + 1) c12)) := Fr.putO w12 G8 m k k _
                    have hlen : (ov.take (q + 1)).length = q + 1 := by rw [List.length_take, HOl.out]; omega
                    have hvp := HVA.out.put (v' := .slice A12 (q + 1) c12) (bs' := ov.take (q + 1)) HVo.out HF12.out (by rw [hlen, HNx.out, iz_append]; exact HO12.out) hbk
                    rw [List.set_set] at hvp
                    refine ⟨q + 1, vp.set m (.slice A12 (q + 1) c12), by omega, by go_num, hide ?_, hide ((HQ12.out.st hlt).2.2 _), hide (hvp.other HQ12.out (by decide) hfs)⟩
                    exact (HFA.out.trans HF12.out (fun i hi e => by have := (HOA.out.lt i e).1; rw [HG8.out] at this; omega)).trans hfs (fun i hi e => by have := (HQ12.out.lt i e).1; rw [HG8.out] at this; omega)
                  case measure => simp [intOf]; omega
                · obtain rfl : q = sl := by omega
                  have hall : ov.take q = ov := List.take_of_length_le (by rw [HOl.out]; omega)
                  rw [hall, HMs.out] at HVq
                  clear hall
                  go_wp2
                  go_roundw
                  case rel => exact ⟨m + 1, vp, by omega, by go_num, HFq, HOq, HVq⟩
                  case measure => simp [intOf]; omega
            · obtain rfl : m = k := by omega
              have hmx : mixO rows ts m = ordsR rows := by rw [mixO_all (by rw [HL.out]; omega), HTs.out]; rfl
              rw [hmx] at HVm
              have HFo := hide (formv_any (some ⟨G8, 0, none⟩) m m wq.heap.size (ordsR rows) wq (by rw [ordsR_len, HL.out]) (ordsR_ok HOk.out) (ordsR_in HOk.out) (Nat.le_refl _) (by unfold maxLen; omega) (Nat.le_refl _) (HVm.out.isl HOm.out.rd))
              have hfl := formV_leT (ordsR_ok HOk.out) (ordsR_in HOk.out)
              obtain ⟨fl, hfl'⟩ : ∃ x, x = (formV (ordsR rows)).length := ⟨_, rfl⟩
              rw [← hfl'] at hfl
              have HFl := hide hfl'
              have HOb := hide (HOj.out.fr0 HFm.out)
              have HFq := hide (HFj.out.tr HFm.out)
              have b1 : (bn + fl) * 1 ≤ 140737488355328 := by omega
              have b2 : bn + fl ≤ maxLen := by unfold maxLen; omega
              clear hmx hfl' hlt
              go_wp2_with (first
                | (go_at_call 36; refine HFo.out.mono ?_; rintro en w13 ⟨v13, rfl, hown, hfr⟩; rw [← HFl.out] at hown; obtain ⟨A13, c13, rfl, p1, p2, _, p3, _⟩ := hown.form; have HS13 := hide (Src.ofRd (P := Tryz.prog) (size := 1) w13 Tryz.underlying25 A13 fl c13 (by8 (formV (ordsR rows))) (by rw [by8_length, ← HFl.out, Nat.mul_one]) (by omega) p3 (by8_one _)); have HO13 := hide (HOb.out.fr0 hfr); have HF13 := hide (HFq.out.tr hfr); have hz13 := HF13.out.size; unfold maxLen at p2; clear hown hfr p3)
                | (at_builtin; refine wpList_append_gen _ rfl (.tmp 100) (.tmp 102) 25 25 rfl w6.heap.size 5 i5 (.int .u8 0) 1 1 Tryz.underlying25 hi5 hz5 hsz5 hby5 rfl u7 bn _ rfl HO13.out _ fl (by8 (formV (ordsR rows))) rfl HS13.out b1 b2 hz13 ?_; intro v14 w14 hown hfr hat; have HO14 := hide hown; have HF14 : Hid (Fr No w6 w14) := hide (HF13.out.own hfr (fun g hg => .inl (HO13.out.lt g hg).1)); clear hown hfr hat))
              go_ret
              have hk : keptT rows = enc j ++ txts ts ++ formV (ordsR rows) := by rw [keptT, if_pos HOkT.out, textsB, ← HTs.out, ← HTk.out]
              refine ⟨v14, rfl, ?_, HF6.out.tr HF14.out⟩
              rw [hk, by8_append, List.length_append, ← HBn.out, ← HFl.out]
              exact HO14.out.lower HF6.out.size
end Go.Proofs.YtnjcncidlhllmaaGreat
namespace Go.Proofs.YtnjcncidlhllmaaGreat
set_option linter.unusedVariables false
set_option linter.unusedSimpArgs false
open Go.RowKit

theorem Own.cellsT {w : World} {base e size n : Nat} {v : Value} {xs : List Value} (h : Own w base e size v n xs) {k : Nat} (hk : v.ownBlock = some k) : base ≤ k ∧ ∃ cs fz, w.heap[k]? = some (.cells cs e fz) := by
  refine ⟨(h.lt k hk).1, ?_⟩
  obtain ⟨_, A, c, rfl, _, _, hA⟩ := h
  rcases hA with ⟨rfl, _⟩ | ⟨g, cur, rfl, _, hh, _⟩
  · cases hk
  · have e : g = k := Option.some.inj hk
    subst e
    exact ⟨_, _, hh⟩
/-- a frame that writes no block of one type. -/
def Off (S : Nat → Prop) (w : World) (t : TypeId) : Prop := ∀ k cs fz, w.heap[k]? = some (.cells cs t fz) → ¬ S k
theorem Own.off {S : Nat → Prop} {w w' : World} {base e size n : Nat} {v : Value} {xs : List Value} (h : Own w base e size v n xs) (f : Fr S w w') (hS : Off S w e) : Own w' base e size v n xs :=
  h.fr f (fun k hk => by
    obtain ⟨_, cs, fz, hh⟩ := h.cellsT hk
    exact hS k cs fz hh)
theorem RD.offT {S : Nat → Prop} {w w' : World} {g : Nat} {bs : List UInt8} {a : Nat} {e : Int} (h : RD w g bs a e) (f : Fr S w w') (h1 : Off S w 108) (h2 : Off S w 5) : RD w' g bs a e := by
  obtain ⟨A, c, hh, q1, q2, q3, q4, ho⟩ := h
  exact ⟨A, c, f.blk hh (h1 _ _ _ hh), q1, q2, q3, q4, ho.off f h2⟩
theorem off_is {w : World} {g : Nat} {cs : Array Value} {t t' : TypeId} {fz : Nat × Nat} (h : w.heap[g]? = some (.cells cs t fz)) (hne : t' ≠ t) : Off (Is g) w t' := by
  intro k cs' fz' hk e
  have e : k = g := e
  subst e
  rw [h] at hk
  injection hk with hk
  injection hk with _ hk _
  exact hne hk.symm
theorem off_own {w : World} {base e size n : Nat} {v : Value} {xs : List Value} (h : Own w base e size v n xs) {t : TypeId} (hne : t ≠ e) : Off (fun k => v.ownBlock = some k) w t := by
  intro k cs fz hk hv
  obtain ⟨_, cs', fz', hh⟩ := h.cellsT hv
  rw [hh] at hk
  injection hk with hk
  injection hk with _ hk _
  exact hne hk.symm


end Go.Proofs.YtnjcncidlhllmaaGreat
