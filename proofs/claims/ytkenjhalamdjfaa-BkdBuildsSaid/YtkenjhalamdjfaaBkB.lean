/- bkd.Build, walked: the bytes of points, or none. -/
import Derived.Test.YtkenjhalamdjfaaBkG
namespace Go.Proofs.Ytkenjhalamdjfaa
set_option linter.unusedVariables false
set_option linter.unusedSimpArgs false
open Go.RowKit

instance (dims : Int) (l : List Pt) : Decidable (mayP dims l) := by unfold mayP; infer_instance
def keptP (dims : Int) (l : List Pt) : List UInt8 := if mayP dims l then buildT dims.toNat l else []
theorem keptP_no {dims : Int} {l : List Pt} (h : ¬ mayP dims l) : keptP dims l = [] := if_neg h
theorem keptP_yes {dims : Nat} {l : List Pt} (h : mayP (dims : Int) l) : keptP (dims : Int) l = buildT dims l := by
  rw [keptP, if_pos h, Int.toNat_natCast]
theorem own_emptyP (w : World) (e : TypeId) : Own (w.alloc (.cells #[] e)) w.heap.size e 2 (.slice (some ⟨w.heap.size, 0, none⟩) 0 0) 0 [] :=
  ⟨rfl, _, _, rfl, Nat.le_refl _, Nat.zero_le _, .inr ⟨w.heap.size, #[], rfl, Nat.le_refl _, heap_alloc_new w _, Nat.zero_le _, rfl⟩⟩
/-- a slice of the call's own, as points in a part of a block. -/
theorem arr_own {w : World} {base n : Nat} {v : Value} {ps : List PoL} (h : Own w base 37 2 v n (pFlat ps)) (hn : 1 ≤ n) : ∃ G off c, v = .slice (some ⟨G, off, none⟩) n c ∧ n ≤ c ∧ c ≤ maxLen ∧ ArrP w G off ps ∧ base ≤ G := by
  obtain ⟨hl, A, c, rfl, hc, hm, hA⟩ := h
  rcases hA with ⟨rfl, hz⟩ | ⟨g, cur, rfl, hb, hh, hcs, ht⟩
  · omega
  · refine ⟨g, 0, c, rfl, hc, hm, ⟨fun j u hu => ?_, (Array.getElem?_eq_some_iff.1 hh).1⟩, hb⟩
    have hj := (List.getElem?_eq_some_iff.1 hu).1
    have h1 : (cur.toList.take (n * 2))[j]? = some u := by rw [ht]; exact hu
    rw [List.getElem?_take_of_lt (by rw [← hl]; exact hj), Array.getElem?_toList] at h1
    refine ⟨?_, by simp [World.frozen?, hh]⟩
    rw [Nat.zero_add, cell_of_row w g j _ _ _ hh]
    exact h1
set_option maxRecDepth 100000 in
set_option maxHeartbeats 2000000 in
theorem clonePt_any (A : Option Addr) (n c B : Nat) (l : List Po) (w : World) (hl : l.length = n) (hn1 : 1 ≤ n) (hn : n ≤ c) (hc : c ≤ maxLen) (hb : n * 32 ≤ 140737488355328) (hB : B ≤ w.heap.size) (hr : RdPo w B A l) :
    Calls Try.prog 11 #[.slice A n c] w (fun en w' => ∃ (ps : List PoL) (G off c' : Nat), en = .returned (.slice (some ⟨G, off, none⟩) n c') ∧ ps.map (·.1) = l ∧ n ≤ c' ∧ c' ≤ maxLen ∧ ArrP w' G off ps ∧ w.heap.size ≤ G ∧ Fr No w w' ∧ ∀ p ∈ ps, p.1.2.length ≤ p.2.2 ∧ p.2.2 ≤ maxLen ∧ Rd w' B p.2.1 (iz .i64 p.1.2)) := by
  obtain ⟨ip, hip, hipz, hipsz, hipby⟩ := info_parts Try.infoBP
  obtain ⟨ps, h1, h2, h3⟩ := hr.ex
  have hpl : ps.length = n := by rw [← hl, ← h1, List.length_map]
  have h0 : ∃ ad, A = some ad := by
    obtain ⟨ad, _, _, e, _⟩ := hr.at (k := 0) (by rw [hl]; omega)
    exact ⟨ad, e⟩
  obtain ⟨ad, rfl⟩ := h0
  have HS := hide (Src.ofRd (P := Try.prog) (size := 2) (w.alloc (.cells #[] 37)) Try.underlying23 (some ad) n c (pFlat ps) (by rw [pFlat_len, hpl]) (by omega) (h2.fr0 ((Fr.refl _ _).alloc _)) (pFlat_one ps))
  have H1 := hide h1
  have H3 := hide h3
  have HPl := hide hpl
  have he := fun W => Lib.run_eql_slice_nil (P := Try.prog) W 23 37 (some ad) n c 0 0 Try.underlying23
  have b1 : (0 + n) * 32 ≤ 140737488355328 := by omega
  have b2 : 0 + n ≤ maxLen := by unfold maxLen; omega
  have b3 : w.heap.size ≤ (w.alloc (.cells #[] 37)).heap.size := by simp
  unfold maxLen at hc
  clear hr h1 h2 h3 hpl hl
  go_enter Try.func11, Try.ntmps11
  go_wp2_with (at_builtin; (refine wpList_append_gen _ rfl (.tmp 5) (.tmp 6) 23 23 rfl w.heap.size 37 ip (.agg #[.int .i64 0, .slice none 0 0]) 2 32 Try.underlying23 hip hipz hipsz hipby rfl _ 0 [] rfl (own_emptyP w 37) _ n (pFlat ps) rfl HS.out b1 b2 b3 ?_); intro v' w' hown hfr hat)
  have hf : Fr No w w' := ((Fr.refl No w).alloc _).own hfr (fun g h => .inl (Nat.le_of_eq (Option.some.inj h)))
  rw [Nat.zero_add, List.nil_append] at hown
  obtain ⟨G, off, c', rfl, z1, z2, harr, hG⟩ := arr_own hown hn1
  go_ret
  exact ⟨ps, G, off, c', rfl, H1.out, z1, z2, harr, hG, hf, fun p hp => ⟨(H3.out p hp).1, (H3.out p hp).2.1, (H3.out p hp).2.2.fr0 hf⟩⟩
theorem givesB_nil (w w' : World) (f : Fr No w w') : GivesB w [] (.returned (.slice none 0 0)) w' := ⟨_, rfl, Own.nil _ _ _ _, f⟩
set_option maxRecDepth 100000 in
set_option maxHeartbeats 4000000 in
theorem bbuild_any (A : Option Addr) (n c B : Nat) (dims : Int) (l : List Po) (w : World) (hl : l.length = n) (hn : n ≤ c) (hc : c ≤ maxLen) (hb : n * 32 ≤ 140737488355328) (hB : B ≤ w.heap.size) (hi : InI2 l) (hr : RdPo w B A l) :
    Calls Try.prog 6 #[.int .i64 dims, .slice A n c] w (GivesB w (keptP dims l)) := by
  have HL := hide hl
  have HR := hide hr
  have HI := hide hi
  have hc' := hc
  unfold maxLen at hc
  clear hr hl hi
  by_cases g1 : dims < 1
  · have HNo : Hid (keptP dims l = []) := hide (keptP_no (fun h => by have := h.1; omega))
    have d1 : decide (dims < 1) = true := decide_eq_true g1
    go_enter Try.func6, Try.ntmps6
    go_wp2
    go_ret
    rw [HNo.out]; exact givesB_nil _ _ (Fr.refl _ _)
  have d1 : decide (dims < 1) = false := decide_eq_false g1
  by_cases g2 : 4 < dims
  · have HNo : Hid (keptP dims l = []) := hide (keptP_no (fun h => by have := h.2.1; omega))
    have d2 : decide (4 < dims) = true := decide_eq_true g2
    go_enter Try.func6, Try.ntmps6
    go_wp2
    go_ret
    rw [HNo.out]; exact givesB_nil _ _ (Fr.refl _ _)
  have d2 : decide (4 < dims) = false := decide_eq_false g2
  by_cases g3 : 1048576 < n
  · have HNo : Hid (keptP dims l = []) := hide (keptP_no (fun h => by have := h.2.2.1; have := HL.out; omega))
    have d3 : decide (1048576 < n) = true := decide_eq_true g3
    have d4 : decide ((1048576 : Int) < (n : Int)) = true := decide_eq_true (by omega)
    go_enter Try.func6, Try.ntmps6
    go_wp2
    go_ret
    rw [HNo.out]; exact givesB_nil _ _ (Fr.refl _ _)
  have d3 : decide (1048576 < n) = false := decide_eq_false g3
  have d4 : decide ((1048576 : Int) < (n : Int)) = false := decide_eq_false (by omega)
  obtain ⟨dn, rfl⟩ : ∃ m : Nat, dims = (m : Int) := ⟨dims.toNat, by omega⟩
  have hdn1 : 1 ≤ dn := by omega
  have hdn4 : dn ≤ 4 := by omega
  have hn20 : n ≤ 1048576 := by omega
  obtain ⟨i5, hi5, hz5, hsz5, hby5⟩ := info_parts Try.info5
  clear g1 g2 g3
  go_enter Try.func6, Try.ntmps6
  go_wp2
  clear d1 d2 d3 d4
  go_loopw [6, 21] (fun _ i wr => ∃ k : Nat, k ≤ n ∧ i = .int .i64 (k : Nat) ∧ Hid (∀ p ∈ l.take k, (p.2.length : Int) = (dn : Int) ∧ 0 ≤ p.1 ∧ p.1 < 16384) ∧ Hid (Fr No w wr)) (fun _ i _ => n - (intOf i).toNat)
  case atStart => exact ⟨0, by omega, by go_num, hide (fun p hp => by rw [List.take_zero] at hp; cases hp), hide (Fr.refl _ _)⟩
  case round =>
    obtain ⟨wo, rfl⟩ : ∃ wo : World, wo = wr := ⟨_, rfl⟩
    obtain ⟨k, hk, rfl, HS, HF⟩ := hrel
    by_cases hlt : k < n
    · have hk1 : k < l.length := by rw [HL.out]; exact hlt
      obtain ⟨ad, A1, c1, rfl, _, k0, k1, e1, e2, hrk⟩ := (HR.out.fr0 HF.out).at hk1
      have hmem := getP_mem hk1
      have htk := take_snocP hk1
      obtain ⟨pk, hpke⟩ : ∃ x, x = l.getD k noPo := ⟨_, rfl⟩
      rw [← hpke] at k0 k1 e1 hmem htk
      obtain ⟨pl, hpl⟩ : ∃ x, x = pk.2.length := ⟨_, rfl⟩
      obtain ⟨pd, hpd⟩ : ∃ x, x = pk.1 := ⟨_, rfl⟩
      rw [← hpl] at k1 e1
      rw [← hpd] at k0
      have HMm := hide hmem
      have HTk := hide htk
      have HPl := hide hpl
      have HPd := hide hpd
      have HF2 := hide (HF.out.alloc (.cells #[.int .i64 pd, .slice A1 pl c1] 37))
      unfold maxLen at e2
      clear hk1 hmem htk hpke hpl hpd hrk
      by_cases h1 : pl = dn
      · subst h1
        have e3 : ((pl : Int) != (pl : Int)) = false := by simp
        by_cases h2 : pd < 0
        · have HNo : Hid (keptP ((pl : Nat) : Int) l = []) := hide (keptP_no (fun h => by have := (h.2.2.2 pk HMm.out).2.1; have := HPd.out; omega))
          have d5 : decide (pd < 0) = true := decide_eq_true h2
          go_wp2
          go_ret
          rw [HNo.out]; exact givesB_nil _ _ HF2.out
        · have d5 : decide (pd < 0) = false := decide_eq_false h2
          by_cases h3 : 16384 ≤ pd
          · have HNo : Hid (keptP ((pl : Nat) : Int) l = []) := hide (keptP_no (fun h => by have := (h.2.2.2 pk HMm.out).2.2; have := HPd.out; omega))
            have d6 : decide (16384 ≤ pd) = true := decide_eq_true h3
            go_wp2
            go_ret
            rw [HNo.out]; exact givesB_nil _ _ HF2.out
          · have d6 : decide (16384 ≤ pd) = false := decide_eq_false h3
            have HS' : Hid (∀ p ∈ l.take (k + 1), (p.2.length : Int) = (pl : Int) ∧ 0 ≤ p.1 ∧ p.1 < 16384) := hide (fun p hp => by
              rw [HTk.out] at hp
              rcases List.mem_append.1 hp with hp | hp
              · exact HS.out p hp
              · rw [List.mem_singleton.1 hp, ← HPl.out, ← HPd.out]; omega)
            go_wp2
            go_roundw
            case rel => exact ⟨k + 1, by omega, by go_num, HS', HF2⟩
            case measure => simp [intOf]; omega
      · have e3 : ((pl : Int) != (dn : Int)) = true := by simpa using (by omega : ¬ (pl : Int) = (dn : Int))
        have HNo : Hid (keptP ((dn : Nat) : Int) l = []) := hide (keptP_no (fun h => by have := (h.2.2.2 pk HMm.out).1; have := HPl.out; omega))
        clear h1
        go_wp2
        go_ret
        rw [HNo.out]; exact givesB_nil _ _ HF2.out
    · obtain rfl : k = n := by omega
      have hall : l.take k = l := List.take_of_length_le (by rw [HL.out]; exact Nat.le_refl _)
      rw [hall] at HS
      have HK : Hid (keptP ((dn : Nat) : Int) l = enc dn ++ enc k ++ treeP dn l) := hide (by rw [keptP_yes ⟨by omega, by omega, by rw [HL.out]; exact hn20, HS.out⟩, buildT, HL.out])
      have HP1 := hide (fun W => putU_any none 0 0 0 [] dn W rfl (Nat.le_refl _) (Nat.zero_le _) (by omega) (Nat.zero_le _) (fun j u hu => by simp [by8] at hu) (by omega))
      clear hall hlt
      obtain ⟨T, hT⟩ : ∃ T, T = treeP dn l := ⟨_, rfl⟩
      rw [← hT] at HK
      have HTe := hide hT
      clear hT
      by_cases hk0 : 0 < k
      · have d5 : decide (0 < k) = true := decide_eq_true hk0
        have d6 : decide ((0 : Int) < (k : Int)) = true := decide_eq_true (by omega)
        have HCl := hide (clonePt_any A k c B l wo HL.out (by omega) hn hc' hb (Nat.le_trans hB HF.out.size) (HR.out.fr0 HF.out))
        go_wp2_with (fail)
        refine HCl.out.mono ?_
        rintro en w1 ⟨ps, G, off, c2, rfl, hps, z1, z2, harr, hG, hf, hok⟩
        have HFo := hide (form_any dn B k ⟨G, off, none⟩ G off c2 ps w1 rfl ⟨by rw [← HL.out, ← hps, List.length_map], by omega, hn20, z1, z2, fun p hp => ⟨by have := (HS.out p.1 (by rw [← hps]; exact List.mem_map.2 ⟨p, hp, rfl⟩)).1; omega, hok p hp⟩, fun p hp => ⟨(HI.out p.1 (by rw [← hps]; exact List.mem_map.2 ⟨p, hp, rfl⟩)).1, (HS.out p.1 (by rw [← hps]; exact List.mem_map.2 ⟨p, hp, rfl⟩)).2⟩, harr, by have := HF.out.size; omega, ⟨hdn1, hdn4⟩⟩)
        rw [hps] at HFo
        have HF1 := hide (HF.out.tr hf)
        have HGw : Hid (w.heap.size ≤ G) := hide (Nat.le_trans HF.out.size hG)
        have htl := treeP_le dn k l HL.out (by omega) (fun p hp => by have := (HS.out p hp).1; omega)
        unfold maxLen at z2
        clear hps z1 harr hG hf hok HCl d5 d6
        go_wp2_with (fail)
        refine HFo.out.mono ?_
        rintro en w2 ⟨⟨vt, rfl, hown⟩, hfr, hap⟩
        rw [← HTe.out] at hown htl
        have hown2 := hown.lower HF1.out.size
        have HF2 : Hid (Fr No w w2) := hide (HF1.out.trans hfr (fun i hi e => by have e : i = G := e; have := HGw.out; omega))
        clear hown hfr hap HFo
        obtain ⟨tn, htn⟩ : ∃ x, x = T.length := ⟨_, rfl⟩
        rw [← htn] at hown2 htl
        obtain ⟨At, ct, rfl, t1, t2, _, t3, _⟩ := hown2.form
        have HT2 := hide hown2
        have HTn := hide htn
        unfold maxLen at t2
        clear hown2 htn t3
        go_wp2_with (fail)
        refine (HP1.out _).mono ?_
        rintro en w3 ⟨v3, rfl, hown, hfr⟩
        rw [List.nil_append] at hown
        obtain ⟨n3, hn3⟩ : ∃ x, x = (enc dn).length := ⟨_, rfl⟩
        have hn3b : n3 ≤ 10 := by rw [hn3]; exact (enc_len dn).2
        rw [← hn3] at hown
        obtain ⟨A3, c3, rfl, y1, y2, _, y3, _⟩ := hown.form
        have HP2 := hide (putU_any A3 n3 c3 w3.heap.size (enc dn) k w3 hn3.symm y1 y2 (by omega) (Nat.le_refl _) y3 (by omega))
        have HF3 := hide (HF2.out.tr hfr)
        have HT3 := hide (HT2.out.fr0 hfr)
        have HN3 := hide hn3
        unfold maxLen at y2
        clear hown hfr hn3 y3 HP1 HT2
        go_wp2_with (fail)
        refine HP2.out.mono ?_
        rintro en w4 ⟨v4, rfl, hown, hfr⟩
        obtain ⟨X, hX⟩ : ∃ X, X = enc dn ++ enc k := ⟨_, rfl⟩
        obtain ⟨n4, hn4⟩ : ∃ x, x = X.length := ⟨_, rfl⟩
        have hn4b : n4 ≤ 20 := by have := (enc_len k).2; rw [hn4, hX, List.length_append, ← HN3.out]; omega
        rw [← hX, ← hn4] at hown
        have HO4 := hide hown
        have HF4 := hide (HF3.out.tr hfr)
        have HT4 := hide (HT3.out.fr0 hfr)
        obtain ⟨_, _, eT, _, _, _, zT, _⟩ := HT4.out.form
        cases eT
        have HS4 := hide (Src.ofRd (P := Try.prog) (size := 1) w4 Try.underlying28 At tn ct (by8 T) (by rw [by8_length, ← HTn.out, Nat.mul_one]) (by omega) zT (by8_one _))
        have b1 : (n4 + tn) * 1 ≤ 140737488355328 := by omega
        have b2 : n4 + tn ≤ maxLen := by unfold maxLen; omega
        have hz4 := hfr.size
        have HX := hide hX
        have HN4 := hide hn4
        have hw3 := HF3.out.size
        clear hown hfr hX hn4 zT HP2 HT3
        go_wp2_with (at_builtin; refine wpList_append_gen _ rfl (.tmp 55) (.tmp 56) 28 28 rfl w3.heap.size 5 i5 (.int .u8 0) 1 1 Try.underlying28 hi5 hz5 hsz5 hby5 rfl v4 n4 (by8 X) rfl HO4.out _ tn (by8 T) rfl HS4.out b1 b2 hz4 ?_; intro v9 w9 hown hfr hat; have HO9 := hide hown; have HF9 : Hid (Fr No w w9) := hide (HF4.out.own hfr (fun g hg => .inl (Nat.le_trans hw3 (HO4.out.lt g hg).1))); clear hown hfr hat)
        go_ret
        refine ⟨v9, rfl, ?_, HF9.out⟩
        rw [HK.out, ← HX.out, by8_append, List.length_append, ← HN4.out, ← HTn.out]
        exact HO9.out.lower hw3
      · obtain rfl : k = 0 := by omega
        have hl0 : l = [] := List.eq_nil_of_length_eq_zero HL.out
        have hT0 : T = [0, 0] := by rw [HTe.out, hl0, treeP_leaf (by simp)]; simp [sortP, ptsB]; rfl
        have htl : T.length + 40 ≤ 110 * 1 := by rw [hT0]; simp
        have hown2 := own_new8 wo #[.int .u8 0, .int .u8 0] 2 T 5 (by rw [hT0]; rfl) (by rw [hT0]; rfl) (by decide)
        obtain ⟨w2, hw2⟩ : ∃ x, x = wo.alloc (.cells #[.int .u8 0, .int .u8 0] 5) := ⟨_, rfl⟩
        obtain ⟨g2, hg2⟩ : ∃ x, x = wo.heap.size := ⟨_, rfl⟩
        have HF2 : Hid (Fr No w w2) := hide (by rw [hw2]; exact HF.out.alloc _)
        rw [← hw2] at hown2
        have hown2 := hown2.lower HF.out.size
        rw [← hg2] at hown2
        have hTl2 : T.length = 2 := by rw [hT0]; rfl
        have HW2 := hide hw2
        have HG2 := hide hg2
        clear hl0 hT0 hw2 hg2 hk0
        go_upto_region 13 with (fail)
        rw [← HW2.out, ← HG2.out]
        have h2 : 2 = T.length := hTl2.symm
        have HT2 := hide hown2
        have HTn := hide h2
        clear hown2 h2 hTl2
        go_wp2_with (fail)
        refine (HP1.out _).mono ?_
        rintro en w3 ⟨v3, rfl, hown, hfr⟩
        rw [List.nil_append] at hown
        obtain ⟨n3, hn3⟩ : ∃ x, x = (enc dn).length := ⟨_, rfl⟩
        have hn3b : n3 ≤ 10 := by rw [hn3]; exact (enc_len dn).2
        rw [← hn3] at hown
        obtain ⟨A3, c3, rfl, y1, y2, _, y3, _⟩ := hown.form
        have HP2 := hide (putU_any A3 n3 c3 w3.heap.size (enc dn) 0 w3 hn3.symm y1 y2 (by omega) (Nat.le_refl _) y3 (by omega))
        have HF3 := hide (HF2.out.tr hfr)
        have HT3 := hide (HT2.out.fr0 hfr)
        have HN3 := hide hn3
        unfold maxLen at y2
        clear hown hfr hn3 y3 HP1 HT2
        go_wp2_with (fail)
        refine HP2.out.mono ?_
        rintro en w4 ⟨v4, rfl, hown, hfr⟩
        obtain ⟨X, hX⟩ : ∃ X, X = enc dn ++ enc 0 := ⟨_, rfl⟩
        obtain ⟨n4, hn4⟩ : ∃ x, x = X.length := ⟨_, rfl⟩
        have hn4b : n4 ≤ 20 := by have := (enc_len 0).2; rw [hn4, hX, List.length_append, ← HN3.out]; omega
        rw [← hX, ← hn4] at hown
        have HO4 := hide hown
        have HF4 := hide (HF3.out.tr hfr)
        have HT4 := hide (HT3.out.fr0 hfr)
        have zT := HT4.out.rd
        have hle4 := HT4.out.le
        have HS4 := hide (Src.ofRd (P := Try.prog) (size := 1) w4 Try.underlying28 (some ⟨g2, 0, none⟩) 2 2 (by8 T) (by rw [by8_length, ← HTn.out, Nat.mul_one]) (by omega) zT (by8_one _))
        have b1 : (n4 + 2) * 1 ≤ 140737488355328 := by omega
        have b2 : n4 + 2 ≤ maxLen := by unfold maxLen; omega
        have hz4 := hfr.size
        have HX := hide hX
        have HN4 := hide hn4
        have hw3 := HF3.out.size
        clear hown hfr hX hn4 zT HP2 HT3
        go_wp2_with (at_builtin; refine wpList_append_gen _ rfl (.tmp 55) (.tmp 56) 28 28 rfl w3.heap.size 5 i5 (.int .u8 0) 1 1 Try.underlying28 hi5 hz5 hsz5 hby5 rfl v4 n4 (by8 X) rfl HO4.out _ 2 (by8 T) rfl HS4.out b1 b2 hz4 ?_; intro v9 w9 hown hfr hat; have HO9 := hide hown; have HF9 : Hid (Fr No w w9) := hide (HF4.out.own hfr (fun g hg => .inl (Nat.le_trans hw3 (HO4.out.lt g hg).1))); clear hown hfr hat)
        go_ret
        refine ⟨v9, rfl, ?_, HF9.out⟩
        rw [HK.out, ← HX.out, by8_append, List.length_append, ← HN4.out, ← HTn.out]
        exact HO9.out.lower hw3
end Go.Proofs.Ytkenjhalamdjfaa
