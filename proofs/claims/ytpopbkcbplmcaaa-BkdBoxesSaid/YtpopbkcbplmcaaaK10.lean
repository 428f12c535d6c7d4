/- Several texts in one: BkB, BkMy, BkSo, BkCl, BkEh, SlEq. -/
import Derived.Test.YtpopbkcbplmcaaaK9
import Derived.BigQuiet
import Derived.Deep.RegionLaw
import Derived.Deep.DeepCutAuto
import Derived.RegionTactic
import Derived.BigRegion
import Derived.Shelf.Lay
import Derived.Shelf.Sort.Plain
import Derived.Shelf.Slices.In.SortNone
import Derived.Shelf.Slices.CompactI
import Derived.Ground.NamesProg
import Derived.Ground.Names2Prog
import Derived.Sort.OwnSortedInts
import Derived.Lib.RowBridge
namespace Go.Proofs.Ytpopbkcbplmcaaa
set_option linter.unusedVariables false
set_option linter.unusedSimpArgs false
open Go.RowKit

instance (dims : Int) (l : List Pt) : Decidable (mayP dims l) := by unfold mayP; infer_instance
def keptP (dims : Int) (l : List Pt) : List UInt8 := if mayP dims l then buildT dims.toNat l else []
theorem keptP_no {dims : Int} {l : List Pt} (h : ¬ mayP dims l) : keptP dims l = [] := if_neg h
theorem keptP_yes {dims : Nat} {l : List Pt} (h : mayP (dims : Int) l) : keptP (dims : Int) l = buildT dims l := by
  rw [keptP, if_pos h, Int.toNat_natCast]
theorem own_emptyP (w : World) (e : TypeId) : Own (w.alloc (.cells #[] e)) w.heap.size e 2 (.slice (some ⟨w.heap.size, 0, none⟩) 0 0) 0 [] :=
  ⟨rfl, _, _, rfl, Nat.le_refl _, Nat.zero_le _, .inr ⟨w.heap.size, #[], rfl, Nat.le_refl _, heap_alloc_new w _, Nat.zero_le _, rfl⟩⟩
/-- a slice of the call's own, as points in a part of a block. -/
theorem arr_own {w : World} {base n : Nat} {v : Value} {ps : List PoL} (h : Own w base 44 2 v n (pFlat ps)) (hn : 1 ≤ n) : ∃ G off c, v = .slice (some ⟨G, off, none⟩) n c ∧ n ≤ c ∧ c ≤ maxLen ∧ ArrP w G off ps ∧ base ≤ G := by
  obtain ⟨hl, A, c, rfl, hc, hm, hA⟩ := h
  rcases hA with ⟨rfl, hz⟩ | ⟨g, cur, rfl, hb, hh, hcs, ht⟩
  · omega
  · refine ⟨g, 0, c, rfl, hc, hm, ⟨fun j u hu => ?_, (Array.getElem?_eq_some_iff.1 hh).1⟩, hb⟩
    have hj := (List.getElem?_eq_some_iff.1 hu).1
    have h1 : (cur.toList.take (n * 2))[j]? = some u := by rw [ht]; exact hu
    rw [List.getElem?_take_of_lt (by rw [← hl]; exact hj), Array.getElem?_toList] at h1
    refine ⟨?_, by simp [World.frozen?, hh]⟩
    rw [Nat.zero_add, cell_of_row w g j _ _ _ hh]
    exact h1
set_option maxRecDepth 100000 in
set_option maxHeartbeats 2000000 in
theorem clonePt_any (A : Option Addr) (n c B : Nat) (l : List Po) (w : World) (hl : l.length = n) (hn1 : 1 ≤ n) (hn : n ≤ c) (hc : c ≤ maxLen) (hb : n * 32 ≤ 140737488355328) (hB : B ≤ w.heap.size) (hr : RdPo w B A l) :
    Calls Try.prog 37 #[.slice A n c] w (fun en w' => ∃ (ps : List PoL) (G off c' : Nat), en = .returned (.slice (some ⟨G, off, none⟩) n c') ∧ ps.map (·.1) = l ∧ n ≤ c' ∧ c' ≤ maxLen ∧ ArrP w' G off ps ∧ w.heap.size ≤ G ∧ Fr No w w' ∧ ∀ p ∈ ps, p.1.2.length ≤ p.2.2 ∧ p.2.2 ≤ maxLen ∧ Rd w' B p.2.1 (iz .i64 p.1.2)) := by
  obtain ⟨ip, hip, hipz, hipsz, hipby⟩ := info_parts Try.infoBP
  obtain ⟨ps, h1, h2, h3⟩ := hr.ex
  have hpl : ps.length = n := by rw [← hl, ← h1, List.length_map]
  have h0 : ∃ ad, A = some ad := by
    obtain ⟨ad, _, _, e, _⟩ := hr.at (k := 0) (by rw [hl]; omega)
    exact ⟨ad, e⟩
  obtain ⟨ad, rfl⟩ := h0
  have HS := hide (Src.ofRd (P := Try.prog) (size := 2) (w.alloc (.cells #[] 44)) Try.underlying25 (some ad) n c (pFlat ps) (by rw [pFlat_len, hpl]) (by omega) (h2.fr0 ((Fr.refl _ _).alloc _)) (pFlat_one ps))
  have H1 := hide h1
  have H3 := hide h3
  have HPl := hide hpl
  have he := fun W => Lib.run_eql_slice_nil (P := Try.prog) W 25 44 (some ad) n c 0 0 Try.underlying25
  have b1 : (0 + n) * 32 ≤ 140737488355328 := by omega
  have b2 : 0 + n ≤ maxLen := by unfold maxLen; omega
  have b3 : w.heap.size ≤ (w.alloc (.cells #[] 44)).heap.size := by simp
  unfold maxLen at hc
  clear hr h1 h2 h3 hpl hl
  go_enter Try.func37, Try.ntmps37
  go_wp2_with (at_builtin; (refine wpList_append_gen _ rfl (.tmp 5) (.tmp 6) 25 25 rfl w.heap.size 44 ip (.agg #[.int .i64 0, .slice none 0 0]) 2 32 Try.underlying25 hip hipz hipsz hipby rfl _ 0 [] rfl (own_emptyP w 44) _ n (pFlat ps) rfl HS.out b1 b2 b3 ?_); intro v' w' hown hfr hat)
  have hf : Fr No w w' := ((Fr.refl No w).alloc _).own hfr (fun g h => .inl (Nat.le_of_eq (Option.some.inj h)))
  rw [Nat.zero_add, List.nil_append] at hown
  obtain ⟨G, off, c', rfl, z1, z2, harr, hG⟩ := arr_own hown hn1
  go_ret
  exact ⟨ps, G, off, c', rfl, H1.out, z1, z2, harr, hG, hf, fun p hp => ⟨(H3.out p hp).1, (H3.out p hp).2.1, (H3.out p hp).2.2.fr0 hf⟩⟩
theorem givesB_nil (w w' : World) (f : Fr No w w') : GivesB w [] (.returned (.slice none 0 0)) w' := ⟨_, rfl, Own.nil _ _ _ _, f⟩
set_option maxRecDepth 100000 in
set_option maxHeartbeats 4000000 in
theorem bbuild_any (A : Option Addr) (n c B : Nat) (dims : Int) (l : List Po) (w : World) (hl : l.length = n) (hn : n ≤ c) (hc : c ≤ maxLen) (hb : n * 32 ≤ 140737488355328) (hB : B ≤ w.heap.size) (hi : InI2 l) (hr : RdPo w B A l) :
    Calls Try.prog 10 #[.int .i64 dims, .slice A n c] w (GivesB w (keptP dims l)) := by
  have HL := hide hl
  have HR := hide hr
  have HI := hide hi
  have hc' := hc
  unfold maxLen at hc
  clear hr hl hi
  by_cases g1 : dims < 1
  · have HNo : Hid (keptP dims l = []) := hide (keptP_no (fun h => by have := h.1; omega))
    have d1 : decide (dims < 1) = true := decide_eq_true g1
    go_enter Try.func10, Try.ntmps10
    go_wp2
    go_ret
    rw [HNo.out]; exact givesB_nil _ _ (Fr.refl _ _)
  have d1 : decide (dims < 1) = false := decide_eq_false g1
  by_cases g2 : 4 < dims
  · have HNo : Hid (keptP dims l = []) := hide (keptP_no (fun h => by have := h.2.1; omega))
    have d2 : decide (4 < dims) = true := decide_eq_true g2
    go_enter Try.func10, Try.ntmps10
    go_wp2
    go_ret
    rw [HNo.out]; exact givesB_nil _ _ (Fr.refl _ _)
  have d2 : decide (4 < dims) = false := decide_eq_false g2
  by_cases g3 : 1048576 < n
  · have HNo : Hid (keptP dims l = []) := hide (keptP_no (fun h => by have := h.2.2.1; have := HL.out; omega))
    have d3 : decide (1048576 < n) = true := decide_eq_true g3
    have d4 : decide ((1048576 : Int) < (n : Int)) = true := decide_eq_true (by omega)
    go_enter Try.func10, Try.ntmps10
    go_wp2
    go_ret
    rw [HNo.out]; exact givesB_nil _ _ (Fr.refl _ _)
  have d3 : decide (1048576 < n) = false := decide_eq_false g3
  have d4 : decide ((1048576 : Int) < (n : Int)) = false := decide_eq_false (by omega)
  obtain ⟨dn, rfl⟩ : ∃ m : Nat, dims = (m : Int) := ⟨dims.toNat, by omega⟩
  have hdn1 : 1 ≤ dn := by omega
  have hdn4 : dn ≤ 4 := by omega
  have hn20 : n ≤ 1048576 := by omega
  obtain ⟨i5, hi5, hz5, hsz5, hby5⟩ := info_parts Try.info5
  clear g1 g2 g3
  go_enter Try.func10, Try.ntmps10
  go_wp2
  clear d1 d2 d3 d4
  go_loopw [6, 21] (fun _ i wr => ∃ k : Nat, k ≤ n ∧ i = .int .i64 (k : Nat) ∧ Hid (∀ p ∈ l.take k, (p.2.length : Int) = (dn : Int) ∧ 0 ≤ p.1 ∧ p.1 < 16384) ∧ Hid (Fr No w wr)) (fun _ i _ => n - (intOf i).toNat)
  case atStart => exact ⟨0, by omega, by go_num, hide (fun p hp => by rw [List.take_zero] at hp; cases hp), hide (Fr.refl _ _)⟩
  case round =>
    obtain ⟨wo, rfl⟩ : ∃ wo : World, wo = wr := ⟨_, rfl⟩
    obtain ⟨k, hk, rfl, HS, HF⟩ := hrel
    by_cases hlt : k < n
    · have hk1 : k < l.length := by rw [HL.out]; exact hlt
      obtain ⟨ad, A1, c1, rfl, _, k0, k1, e1, e2, hrk⟩ := (HR.out.fr0 HF.out).at hk1
      have hmem := getP_mem hk1
      have htk := take_snocP hk1
      obtain ⟨pk, hpke⟩ : ∃ x, x = l.getD k noPo := ⟨_, rfl⟩
      rw [← hpke] at k0 k1 e1 hmem htk
      obtain ⟨pl, hpl⟩ : ∃ x, x = pk.2.length := ⟨_, rfl⟩
      obtain ⟨pd, hpd⟩ : ∃ x, x = pk.1 := ⟨_, rfl⟩
      rw [← hpl] at k1 e1
      rw [← hpd] at k0
      have HMm := hide hmem
      have HTk := hide htk
      have HPl := hide hpl
      have HPd := hide hpd
      have HF2 := hide (HF.out.alloc (.cells #[.int .i64 pd, .slice A1 pl c1] 44))
      unfold maxLen at e2
      clear hk1 hmem htk hpke hpl hpd hrk
      by_cases h1 : pl = dn
      · subst h1
        have e3 : ((pl : Int) != (pl : Int)) = false := by simp
        by_cases h2 : pd < 0
        · have HNo : Hid (keptP ((pl : Nat) : Int) l = []) := hide (keptP_no (fun h => by have := (h.2.2.2 pk HMm.out).2.1; have := HPd.out; omega))
          have d5 : decide (pd < 0) = true := decide_eq_true h2
          go_wp2
          go_ret
          rw [HNo.out]; exact givesB_nil _ _ HF2.out
        · have d5 : decide (pd < 0) = false := decide_eq_false h2
          by_cases h3 : 16384 ≤ pd
          · have HNo : Hid (keptP ((pl : Nat) : Int) l = []) := hide (keptP_no (fun h => by have := (h.2.2.2 pk HMm.out).2.2; have := HPd.out; omega))
            have d6 : decide (16384 ≤ pd) = true := decide_eq_true h3
            go_wp2
            go_ret
            rw [HNo.out]; exact givesB_nil _ _ HF2.out
          · have d6 : decide (16384 ≤ pd) = false := decide_eq_false h3
            have HS' : Hid (∀ p ∈ l.take (k + 1), (p.2.length : Int) = (pl : Int) ∧ 0 ≤ p.1 ∧ p.1 < 16384) := hide (fun p hp => by
              rw [HTk.out] at hp
              rcases List.mem_append.1 hp with hp | hp
              · exact HS.out p hp
              · rw [List.mem_singleton.1 hp, ← HPl.out, ← HPd.out]; omega)
            go_wp2
            go_roundw
            case rel => exact ⟨k + 1, by omega, by go_num, HS', HF2⟩
            case measure => simp [intOf]; omega
      · have e3 : ((pl : Int) != (dn : Int)) = true := by simpa using (by omega : ¬ (pl : Int) = (dn : Int))
        have HNo : Hid (keptP ((dn : Nat) : Int) l = []) := hide (keptP_no (fun h => by have := (h.2.2.2 pk HMm.out).1; have := HPl.out; omega))
        clear h1
        go_wp2
        go_ret
        rw [HNo.out]; exact givesB_nil _ _ HF2.out
    · obtain rfl : k = n := by omega
      have hall : l.take k = l := List.take_of_length_le (by rw [HL.out]; exact Nat.le_refl _)
      rw [hall] at HS
      have HK : Hid (keptP ((dn : Nat) : Int) l = enc dn ++ enc k ++ treeP dn l) := hide (by rw [keptP_yes ⟨by omega, by omega, by rw [HL.out]; exact hn20, HS.out⟩, buildT, HL.out])
      have HP1 := hide (fun W => putU_any none 0 0 0 [] dn W rfl (Nat.le_refl _) (Nat.zero_le _) (by omega) (Nat.zero_le _) (fun j u hu => by simp [by8] at hu) (by omega))
      clear hall hlt
      obtain ⟨T, hT⟩ : ∃ T, T = treeP dn l := ⟨_, rfl⟩
      rw [← hT] at HK
      have HTe := hide hT
      clear hT
      by_cases hk0 : 0 < k
      · have d5 : decide (0 < k) = true := decide_eq_true hk0
        have d6 : decide ((0 : Int) < (k : Int)) = true := decide_eq_true (by omega)
        have HCl := hide (clonePt_any A k c B l wo HL.out (by omega) hn hc' hb (Nat.le_trans hB HF.out.size) (HR.out.fr0 HF.out))
        go_wp2_with (fail)
        refine HCl.out.mono ?_
        rintro en w1 ⟨ps, G, off, c2, rfl, hps, z1, z2, harr, hG, hf, hok⟩
        have HFo := hide (form_any dn B k ⟨G, off, none⟩ G off c2 ps w1 rfl ⟨by rw [← HL.out, ← hps, List.length_map], by omega, hn20, z1, z2, fun p hp => ⟨by have := (HS.out p.1 (by rw [← hps]; exact List.mem_map.2 ⟨p, hp, rfl⟩)).1; omega, hok p hp⟩, fun p hp => ⟨(HI.out p.1 (by rw [← hps]; exact List.mem_map.2 ⟨p, hp, rfl⟩)).1, (HS.out p.1 (by rw [← hps]; exact List.mem_map.2 ⟨p, hp, rfl⟩)).2⟩, harr, by have := HF.out.size; omega, ⟨hdn1, hdn4⟩⟩)
        rw [hps] at HFo
        have HF1 := hide (HF.out.tr hf)
        have HGw : Hid (w.heap.size ≤ G) := hide (Nat.le_trans HF.out.size hG)
        have htl := treeP_le dn k l HL.out (by omega) (fun p hp => by have := (HS.out p hp).1; omega)
        unfold maxLen at z2
        clear hps z1 harr hG hf hok HCl d5 d6
        go_wp2_with (fail)
        refine HFo.out.mono ?_
        rintro en w2 ⟨⟨vt, rfl, hown⟩, hfr, hap⟩
        rw [← HTe.out] at hown htl
        have hown2 := hown.lower HF1.out.size
        have HF2 : Hid (Fr No w w2) := hide (HF1.out.trans hfr (fun i hi e => by have e : i = G := e; have := HGw.out; omega))
        clear hown hfr hap HFo
        obtain ⟨tn, htn⟩ : ∃ x, x = T.length := ⟨_, rfl⟩
        rw [← htn] at hown2 htl
        obtain ⟨At, ct, rfl, t1, t2, _, t3, _⟩ := hown2.form
        have HT2 := hide hown2
        have HTn := hide htn
        unfold maxLen at t2
        clear hown2 htn t3
        go_wp2_with (fail)
        refine (HP1.out _).mono ?_
        rintro en w3 ⟨v3, rfl, hown, hfr⟩
        rw [List.nil_append] at hown
        obtain ⟨n3, hn3⟩ : ∃ x, x = (enc dn).length := ⟨_, rfl⟩
        have hn3b : n3 ≤ 10 := by rw [hn3]; exact (enc_len dn).2
        rw [← hn3] at hown
        obtain ⟨A3, c3, rfl, y1, y2, _, y3, _⟩ := hown.form
        have HP2 := hide (putU_any A3 n3 c3 w3.heap.size (enc dn) k w3 hn3.symm y1 y2 (by omega) (Nat.le_refl _) y3 (by omega))
        have HF3 := hide (HF2.out.tr hfr)
        have HT3 := hide (HT2.out.fr0 hfr)
        have HN3 := hide hn3
        unfold maxLen at y2
        clear hown hfr hn3 y3 HP1 HT2
        go_wp2_with (fail)
        refine HP2.out.mono ?_
        rintro en w4 ⟨v4, rfl, hown, hfr⟩
        obtain ⟨X, hX⟩ : ∃ X, X = enc dn ++ enc k := ⟨_, rfl⟩
        obtain ⟨n4, hn4⟩ : ∃ x, x = X.length := ⟨_, rfl⟩
        have hn4b : n4 ≤ 20 := by have := (enc_len k).2; rw [hn4, hX, List.length_append, ← HN3.out]; omega
        rw [← hX, ← hn4] at hown
        have HO4 := hide hown
        have HF4 := hide (HF3.out.tr hfr)
        have HT4 := hide (HT3.out.fr0 hfr)
        obtain ⟨_, _, eT, _, _, _, zT, _⟩ := HT4.out.form
        cases eT
        have HS4 := hide (Src.ofRd (P := Try.prog) (size := 1) w4 Try.underlying33 At tn ct (by8 T) (by rw [by8_length, ← HTn.out, Nat.mul_one]) (by omega) zT (by8_one _))
        have b1 : (n4 + tn) * 1 ≤ 140737488355328 := by omega
        have b2 : n4 + tn ≤ maxLen := by unfold maxLen; omega
        have hz4 := hfr.size
        have HX := hide hX
        have HN4 := hide hn4
        have hw3 := HF3.out.size
        clear hown hfr hX hn4 zT HP2 HT3
        go_wp2_with (at_builtin; refine wpList_append_gen _ rfl (.tmp 55) (.tmp 56) 33 33 rfl w3.heap.size 5 i5 (.int .u8 0) 1 1 Try.underlying33 hi5 hz5 hsz5 hby5 rfl v4 n4 (by8 X) rfl HO4.out _ tn (by8 T) rfl HS4.out b1 b2 hz4 ?_; intro v9 w9 hown hfr hat; have HO9 := hide hown; have HF9 : Hid (Fr No w w9) := hide (HF4.out.own hfr (fun g hg => .inl (Nat.le_trans hw3 (HO4.out.lt g hg).1))); clear hown hfr hat)
        go_ret
        refine ⟨v9, rfl, ?_, HF9.out⟩
        rw [HK.out, ← HX.out, by8_append, List.length_append, ← HN4.out, ← HTn.out]
        exact HO9.out.lower hw3
      · obtain rfl : k = 0 := by omega
        have hl0 : l = [] := List.eq_nil_of_length_eq_zero HL.out
        have hT0 : T = [0, 0] := by rw [HTe.out, hl0, treeP_leaf (by simp)]; simp [sortP, ptsB]; rfl
        have htl : T.length + 40 ≤ 110 * 1 := by rw [hT0]; simp
        have hown2 := own_new8 wo #[.int .u8 0, .int .u8 0] 2 T 5 (by rw [hT0]; rfl) (by rw [hT0]; rfl) (by decide)
        obtain ⟨w2, hw2⟩ : ∃ x, x = wo.alloc (.cells #[.int .u8 0, .int .u8 0] 5) := ⟨_, rfl⟩
        obtain ⟨g2, hg2⟩ : ∃ x, x = wo.heap.size := ⟨_, rfl⟩
        have HF2 : Hid (Fr No w w2) := hide (by rw [hw2]; exact HF.out.alloc _)
        rw [← hw2] at hown2
        have hown2 := hown2.lower HF.out.size
        rw [← hg2] at hown2
        have hTl2 : T.length = 2 := by rw [hT0]; rfl
        have HW2 := hide hw2
        have HG2 := hide hg2
        clear hl0 hT0 hw2 hg2 hk0
        go_upto_region 13 with (fail)
        rw [← HW2.out, ← HG2.out]
        have h2 : 2 = T.length := hTl2.symm
        have HT2 := hide hown2
        have HTn := hide h2
        clear hown2 h2 hTl2
        go_wp2_with (fail)
        refine (HP1.out _).mono ?_
        rintro en w3 ⟨v3, rfl, hown, hfr⟩
        rw [List.nil_append] at hown
        obtain ⟨n3, hn3⟩ : ∃ x, x = (enc dn).length := ⟨_, rfl⟩
        have hn3b : n3 ≤ 10 := by rw [hn3]; exact (enc_len dn).2
        rw [← hn3] at hown
        obtain ⟨A3, c3, rfl, y1, y2, _, y3, _⟩ := hown.form
        have HP2 := hide (putU_any A3 n3 c3 w3.heap.size (enc dn) 0 w3 hn3.symm y1 y2 (by omega) (Nat.le_refl _) y3 (by omega))
        have HF3 := hide (HF2.out.tr hfr)
        have HT3 := hide (HT2.out.fr0 hfr)
        have HN3 := hide hn3
        unfold maxLen at y2
        clear hown hfr hn3 y3 HP1 HT2
        go_wp2_with (fail)
        refine HP2.out.mono ?_
        rintro en w4 ⟨v4, rfl, hown, hfr⟩
        obtain ⟨X, hX⟩ : ∃ X, X = enc dn ++ enc 0 := ⟨_, rfl⟩
        obtain ⟨n4, hn4⟩ : ∃ x, x = X.length := ⟨_, rfl⟩
        have hn4b : n4 ≤ 20 := by have := (enc_len 0).2; rw [hn4, hX, List.length_append, ← HN3.out]; omega
        rw [← hX, ← hn4] at hown
        have HO4 := hide hown
        have HF4 := hide (HF3.out.tr hfr)
        have HT4 := hide (HT3.out.fr0 hfr)
        have zT := HT4.out.rd
        have hle4 := HT4.out.le
        have HS4 := hide (Src.ofRd (P := Try.prog) (size := 1) w4 Try.underlying33 (some ⟨g2, 0, none⟩) 2 2 (by8 T) (by rw [by8_length, ← HTn.out, Nat.mul_one]) (by omega) zT (by8_one _))
        have b1 : (n4 + 2) * 1 ≤ 140737488355328 := by omega
        have b2 : n4 + 2 ≤ maxLen := by unfold maxLen; omega
        have hz4 := hfr.size
        have HX := hide hX
        have HN4 := hide hn4
        have hw3 := HF3.out.size
        clear hown hfr hX hn4 zT HP2 HT3
        go_wp2_with (at_builtin; refine wpList_append_gen _ rfl (.tmp 55) (.tmp 56) 33 33 rfl w3.heap.size 5 i5 (.int .u8 0) 1 1 Try.underlying33 hi5 hz5 hsz5 hby5 rfl v4 n4 (by8 X) rfl HO4.out _ 2 (by8 T) rfl HS4.out b1 b2 hz4 ?_; intro v9 w9 hown hfr hat; have HO9 := hide hown; have HF9 : Hid (Fr No w w9) := hide (HF4.out.own hfr (fun g hg => .inl (Nat.le_trans hw3 (HO4.out.lt g hg).1))); clear hown hfr hat)
        go_ret
        refine ⟨v9, rfl, ?_, HF9.out⟩
        rw [HK.out, ← HX.out, by8_append, List.length_append, ← HN4.out, ← HTn.out]
        exact HO9.out.lower hw3
end Go.Proofs.Ytpopbkcbplmcaaa
namespace Go.Proofs.Ytpopbkcbplmcaaa
set_option linter.unusedVariables false
set_option linter.unusedSimpArgs false
open Go.RowKit

set_option maxRecDepth 100000 in
set_option maxHeartbeats 2000000 in
theorem may_any (A : Option Addr) (n c B : Nat) (dims : Int) (l : List Po) (w : World) (hl : l.length = n) (hn : n ≤ c) (hc : c ≤ maxLen) (hr : RdPo w B A l) :
    Calls Try.prog 20 #[.int .i64 dims, .slice A n c] w (Ret (.bool (decide (mayP dims l))) w) := by
  have HL := hide hl
  have HR := hide hr
  unfold maxLen at hc
  clear hr hl
  obtain ⟨r, hr⟩ : ∃ r, r = decide (mayP dims l) := ⟨_, rfl⟩
  rw [← hr]
  have HRr := hide hr
  clear hr
  by_cases g1 : dims < 1
  · have HNo : Hid (r = false) := hide (by rw [HRr.out]; exact decide_eq_false (fun h => by have := h.1; omega))
    have d1 : decide (dims < 1) = true := decide_eq_true g1
    go_enter Try.func20, Try.ntmps20
    go_wp2
    go_ret
    exact ⟨by rw [HNo.out]; rfl, rfl⟩
  have d1 : decide (dims < 1) = false := decide_eq_false g1
  by_cases g2 : 4 < dims
  · have HNo : Hid (r = false) := hide (by rw [HRr.out]; exact decide_eq_false (fun h => by have := h.2.1; omega))
    have d2 : decide (4 < dims) = true := decide_eq_true g2
    go_enter Try.func20, Try.ntmps20
    go_wp2
    go_ret
    exact ⟨by rw [HNo.out]; rfl, rfl⟩
  have d2 : decide (4 < dims) = false := decide_eq_false g2
  by_cases g3 : 1048576 < n
  · have HNo : Hid (r = false) := hide (by rw [HRr.out]; exact decide_eq_false (fun h => by have := h.2.2.1; have := HL.out; omega))
    have d3 : decide (1048576 < n) = true := decide_eq_true g3
    have d4 : decide ((1048576 : Int) < (n : Int)) = true := decide_eq_true (by omega)
    go_enter Try.func20, Try.ntmps20
    go_wp2
    go_ret
    exact ⟨by rw [HNo.out]; rfl, rfl⟩
  have d3 : decide (1048576 < n) = false := decide_eq_false g3
  have d4 : decide ((1048576 : Int) < (n : Int)) = false := decide_eq_false (by omega)
  obtain ⟨dn, rfl⟩ : ∃ m : Nat, dims = (m : Int) := ⟨dims.toNat, by omega⟩
  have hdn1 : 1 ≤ dn := by omega
  have hdn4 : dn ≤ 4 := by omega
  have hn20 : n ≤ 1048576 := by omega
  clear g1 g2 g3
  go_enter Try.func20, Try.ntmps20
  go_wp2
  clear d1 d2 d3 d4
  go_loopw [5] (fun i wr => ∃ k : Nat, k ≤ n ∧ i = .int .i64 (k : Nat) ∧ Hid (∀ p ∈ l.take k, (p.2.length : Int) = (dn : Int) ∧ 0 ≤ p.1 ∧ p.1 < 16384) ∧ wr = w) (fun i _ => n - (intOf i).toNat)
  case atStart => exact ⟨0, by omega, by go_num, hide (fun p hp => by rw [List.take_zero] at hp; cases hp), rfl⟩
  case round =>
    obtain ⟨k, hk, rfl, HS, rfl⟩ := hrel
    by_cases hlt : k < n
    · have hk1 : k < l.length := by rw [HL.out]; exact hlt
      obtain ⟨ad, A1, c1, rfl, _, k0, k1, e1, e2, hrk⟩ := HR.out.at hk1
      have hmem := getP_mem hk1
      have htk := take_snocP hk1
      obtain ⟨pk, hpke⟩ : ∃ x, x = l.getD k noPo := ⟨_, rfl⟩
      rw [← hpke] at k0 k1 e1 hmem htk
      obtain ⟨pl, hpl⟩ : ∃ x, x = pk.2.length := ⟨_, rfl⟩
      obtain ⟨pd, hpd⟩ : ∃ x, x = pk.1 := ⟨_, rfl⟩
      rw [← hpl] at k1 e1
      rw [← hpd] at k0
      have HMm := hide hmem
      have HTk := hide htk
      have HPl := hide hpl
      have HPd := hide hpd
      unfold maxLen at e2
      clear hk1 hmem htk hpke hpl hpd hrk
      by_cases h1 : pl = dn
      · subst h1
        have e3 : ((pl : Int) != (pl : Int)) = false := by simp
        by_cases h2 : pd < 0
        · have HNo : Hid (r = false) := hide (by rw [HRr.out]; exact decide_eq_false (fun h => by have := (h.2.2.2 pk HMm.out).2.1; have := HPd.out; omega))
          have d5 : decide (pd < 0) = true := decide_eq_true h2
          go_wp2
          go_ret
          exact ⟨by rw [HNo.out]; rfl, rfl⟩
        · have d5 : decide (pd < 0) = false := decide_eq_false h2
          by_cases h3 : 16384 ≤ pd
          · have HNo : Hid (r = false) := hide (by rw [HRr.out]; exact decide_eq_false (fun h => by have := (h.2.2.2 pk HMm.out).2.2; have := HPd.out; omega))
            have d6 : decide (16384 ≤ pd) = true := decide_eq_true h3
            go_wp2
            go_ret
            exact ⟨by rw [HNo.out]; rfl, rfl⟩
          · have d6 : decide (16384 ≤ pd) = false := decide_eq_false h3
            have HS' : Hid (∀ p ∈ l.take (k + 1), (p.2.length : Int) = (pl : Int) ∧ 0 ≤ p.1 ∧ p.1 < 16384) := hide (fun p hp => by
              rw [HTk.out] at hp
              rcases List.mem_append.1 hp with hp | hp
              · exact HS.out p hp
              · rw [List.mem_singleton.1 hp, ← HPl.out, ← HPd.out]; omega)
            go_wp2
            go_roundw
            case rel => exact ⟨k + 1, by omega, by go_num, HS', trivial⟩
            case measure => simp [intOf]; omega
      · have e3 : ((pl : Int) != (dn : Int)) = true := by simpa using (by omega : ¬ (pl : Int) = (dn : Int))
        have HNo : Hid (r = false) := hide (by rw [HRr.out]; exact decide_eq_false (fun h => by have := (h.2.2.2 pk HMm.out).1; have := HPl.out; omega))
        clear h1
        go_wp2
        go_ret
        exact ⟨by rw [HNo.out]; rfl, rfl⟩
    · obtain rfl : k = n := by omega
      have hall : l.take k = l := List.take_of_length_le (by rw [HL.out]; exact Nat.le_refl _)
      rw [hall] at HS
      have HYes : Hid (r = true) := hide (by rw [HRr.out]; exact decide_eq_true ⟨by omega, by omega, by rw [HL.out]; exact hn20, HS.out⟩)
      clear hall hlt
      go_wp2
      go_ret
      exact ⟨by rw [HYes.out]; rfl, rfl⟩
end Go.Proofs.Ytpopbkcbplmcaaa
namespace Go.Proofs.Ytpopbkcbplmcaaa
set_option linter.unusedVariables false
set_option linter.unusedSimpArgs false
open Go.Shelf Go.RowKit Go.Lib Go.Sort
shelf_lay Lays.n189 Nm 189 at Try as Try.sortInts
shelf_lay Lays2.n20 Nm2 20 at Try as Try.compactInts
/-- a slice of the call's own, sorted. -/
theorem sortZ_any (base n c : Nat) (A : Option Addr) (xs : List Int) (w : World) (h : Own w base 3 1 (.slice A n c) n (iz .i64 xs)) (hb : n ≤ 4611686018427387903) :
    Calls Try.prog 42 #[.slice A n c] w (fun en w' => en = .returned (.tuple #[]) ∧ Own w' base 3 1 (.slice A n c) n (iz .i64 (sortZ xs)) ∧ Fr (fun k => (Value.slice A n c).ownBlock = some k) w w') := by
  obtain ⟨hl, A', c', hv, hn, hm, hA⟩ := h
  injection hv with h1 h2 h3
  subst h1; subst h3
  rw [iz_len, Nat.mul_one] at hl
  rcases hA with ⟨rfl, rfl⟩ | ⟨g, cur, rfl, hb', hh, hcs, ht⟩
  · have h0 : n = 0 := by omega
    subst h0
    have hx : xs = [] := List.eq_nil_of_length_eq_zero hl
    subst hx
    refine (Any.slices_Sort_int_none Try.sortInts none 0 w).mono ?_
    rintro en w' ⟨rfl, rfl⟩
    refine ⟨rfl, ?_, Fr.refl _ _⟩
    rw [sortZ_nil]
    exact Own.nil _ _ _ _
  · have hH : Holds (Value.int .i64) w g 0 xs.toArray := holds_of_blockI hh (by rw [hl]; simpa [iz] using ht)
    have hc := Any.slices_Sort_int Try.sortInts g 0 c xs w hH (Array.getElem?_eq_some_iff.1 hh).1 (by omega)
    rw [hl] at hc
    refine hc.mono ?_
    rintro en w' ⟨rfl, nn, os, rfl⟩
    have hsl : (xs.mergeSort fun x y => decide (x ≤ y)).length = xs.length := List.length_mergeSort xs
    have hsz : (xs.mergeSort fun x y => decide (x ≤ y)).length ≤ cur.size := by rw [hsl]; omega
    obtain ⟨g1, g2, g3, g4, g5⟩ := grownBy_sortedI (w := w) (g := g) (n := nn) (os := os) (xs.mergeSort fun x y => decide (x ≤ y)).toArray
    refine ⟨rfl, ⟨by rw [iz_len, sortZ_len, hl]; omega, _, c, rfl, hn, hm, .inr ⟨g, _, rfl, hb', heap_sortedI _ hh, by simpa [putCells] using hcs, ?_⟩⟩, ⟨g1, g2, g3, g4, fun k hk hne => g5 k hk (fun e => hne e.symm)⟩⟩
    have := take_putCellsI cur (xs.mergeSort fun x y => decide (x ≤ y)) hsz
    rw [hsl, hl] at this
    rw [Nat.mul_one]
    exact this
theorem heap_putZ {w : World} {g n : Nat} {cur : Array Value} {e : TypeId} {fr : Nat × Nat} (d : Array Int) (hb : w.heap[g]? = some (.cells cur e fr)) :
    (putRow (Value.int .i64) (Sort.ahead w n) g 0 d).heap[g]? = some (.cells (putCells (Value.int .i64) 0 d cur) e fr) := by
  simp [putRow, mapBlock, Sort.ahead, Array.getElem?_modify, hb, onCells]
theorem fr_putZ {w : World} {g n : Nat} (d : Array Int) : Fr (fun k => g = k) w (putRow (Value.int .i64) (Sort.ahead w n) g 0 d) := by
  refine ⟨rfl, rfl, rfl, by simp [putRow, mapBlock, Sort.ahead], fun k hk hne => ?_⟩
  simp [putRow, mapBlock, Sort.ahead, Array.getElem?_modify, hne]
/-- a slice of the call's own, each number once. -/
theorem compactZ_any (base n c : Nat) (A : Option Addr) (xs : List Int) (w : World) (h : Own w base 3 1 (.slice A n c) n (iz .i64 xs)) (hb : n ≤ 4611686018427387903) :
    Calls Try.prog 43 #[.slice A n c] w (fun en w' => en = .returned (.slice A (compact xs).length c) ∧ Own w' base 3 1 (.slice A (compact xs).length c) (compact xs).length (iz .i64 (compact xs)) ∧ Fr (fun k => (Value.slice A n c).ownBlock = some k) w w') := by
  obtain ⟨hl, A', c', hv, hn, hm, hA⟩ := h
  injection hv with h1 h2 h3
  subst h1; subst h3
  rw [iz_len, Nat.mul_one] at hl
  have hle := compactZ_le xs
  rcases hA with ⟨rfl, rfl⟩ | ⟨g, cur, rfl, hb', hh, hcs, ht⟩
  · have h0 : n = 0 := by omega
    subst h0
    have hx : xs = [] := List.eq_nil_of_length_eq_zero hl
    subst hx
    refine (Any.slices_Compact_int_empty Try.compactInts none 0 w).mono ?_
    rintro en w' ⟨rfl, rfl⟩
    exact ⟨rfl, Own.nil _ _ _ _, Fr.refl _ _⟩
  · have hH : Holds (Value.int .i64) w g 0 xs.toArray := holds_of_blockI hh (by rw [hl]; simpa [iz] using ht)
    have hc := Any.slices_Compact_int Try.compactInts g 0 c xs w hH (by omega) (by omega)
    rw [hl] at hc
    refine hc.mono ?_
    rintro en w' ⟨rfl, q, rfl⟩
    refine ⟨rfl, ⟨by rw [iz_len, Nat.mul_one], _, c, rfl, by omega, hm, .inr ⟨g, _, rfl, hb', heap_putZ _ hh, by simpa [putCells] using hcs, ?_⟩⟩, (fr_putZ _).mono ?_⟩
    · have h1 := take_putCellsI cur (compact xs ++ List.replicate (n - (compact xs).length) 0) (by simp; omega)
      have h2 := congrArg (List.take (compact xs).length) h1
      rw [List.take_take, ← List.map_take, List.take_left, Nat.min_eq_left (by simp)] at h2
      rw [Nat.mul_one]
      exact h2
    · intro k _ hk
      rw [← hk]
      rfl
set_option maxRecDepth 100000 in
set_option maxHeartbeats 2000000 in
theorem brange_any (b gT dims : Nat) (l : List Pt) (Al Ah : Option Addr) (n1 n2 cl ch B1 B2 : Nat) (low high : List Int) (w : World) (hT : TrM w b gT dims l) (hm : mayP (dims : Int) l) (hl1 : low.length = n1) (hl2 : high.length = n2) (h1 : n1 ≤ cl) (h2 : n2 ≤ ch) (hc1 : cl ≤ maxLen) (hc2 : ch ≤ maxLen) (hB1 : B1 ≤ w.heap.size) (hB2 : B2 ≤ w.heap.size) (hr1 : Rd w B1 Al (iz .i64 low)) (hr2 : Rd w B2 Ah (iz .i64 high)) :
    Calls Try.prog 15 #[.pointer (some ⟨gT, 0, none⟩), .slice Al n1 cl, .slice Ah n2 ch] w (fun en w' => ∃ v, en = .returned v ∧ Own w' w.heap.size 3 1 v (rngZ dims l low high).length (iz .i64 (rngZ dims l low high)) ∧ Fr No w w') := by
  have hmf : ∀ (fn : Fn) (first cap : Array Value) (w : World), (Instr.makeFunc fn first cap).run Try.prog w = .ok (.func fn first cap) w := fun _ _ _ _ => rfl
  have hres : rngZ dims l low high = setZ ((boxT dims l low high).map (·.1)) := setZ_perm ((boxT_perm (low := low) (high := high) hm).map _).symm
  have hlen : (boxT dims l low high).length ≤ 1048576 := Nat.le_trans boxT_len hm.2.2.1
  rw [hres]
  obtain ⟨xs, hxs⟩ : ∃ x, x = (boxT dims l low high).map (·.1) := ⟨_, rfl⟩
  rw [← hxs]
  have HXs := hide hxs
  have HE := hide (fun W (f : Fr No w W) (hI : RngI w.heap.size [] W) => each_any w.heap.size _ w.heap.size Al Ah n1 n2 cl ch low high _ (rng_call w.heap.size w.heap.size (Nat.le_refl _)) hl1 hl2 h1 h2 hc1 hc2 gT dims l W f.size (hT.q.fr0 f) hm hI ((hr1.more hB1).fr0 f) ((hr2.more hB2).fr0 f))
  clear hT hm hl1 hl2 hr1 hr2 h1 h2 hc1 hc2 hres hxs
  go_enter Try.func15, Try.ntmps15
  go_wp2_with (fail)
  have hc := HE.out (w.alloc (.cells #[.slice none 0 0] 40)) ((Fr.refl No w).alloc _) ⟨_, heap_alloc_new w _, Own.nil _ _ _ _⟩
  clear HE
  refine hc.mono ?_
  rintro en w2 ⟨⟨r, rfl⟩, f, v, hb, ho⟩
  have HF := hide (fr_dos ((Fr.refl No w).alloc _) f)
  obtain ⟨n, hn⟩ : ∃ n, n = (boxT dims l low high).length := ⟨_, rfl⟩
  rw [← HXs.out, ← hn] at ho
  rw [← hn] at hlen
  obtain ⟨A, c, rfl, p1, p2, _⟩ := ho.form
  have HO := hide ho
  have HB := hide hb
  have hk : w2.cell? ⟨w.heap.size, 0, none⟩ = some (.slice A n c) := cell_of_row w2 _ 0 _ _ _ hb
  have HSo := hide (sortZ_any w.heap.size n c A xs w2 ho (by omega))
  clear hc f hb ho hn
  go_wp2_with (fail)
  refine HSo.out.mono ?_
  rintro en w3 ⟨rfl, o3, f3⟩
  have hb3 := f3.blk HB.out (fun e => HO.out.ne_blk e HB.out (by decide))
  have hk3 : w3.cell? ⟨w.heap.size, 0, none⟩ = some (.slice A n c) := cell_of_row w3 _ 0 _ _ _ hb3
  have HF3 := hide (HF.out.trans f3 (fun i hi e => by have := (HO.out.lt i e).1; omega))
  have HC := hide (compactZ_any w.heap.size n c A (sortZ xs) w3 o3 (by omega))
  have HO3 := hide o3
  clear o3 f3 hb3 hk HSo
  go_wp2_with (fail)
  refine HC.out.mono ?_
  rintro en w4 ⟨rfl, o4, f4⟩
  have HO4 := hide o4
  have HF4 := hide (HF3.out.trans f4 (fun i hi e => by have := (HO3.out.lt i e).1; omega))
  clear o4 f4 hk3 HC
  go_wp2_with (fail)
  go_ret
  exact ⟨_, rfl, HO4.out, HF4.out⟩
end Go.Proofs.Ytpopbkcbplmcaaa
namespace Go.Proofs.Ytpopbkcbplmcaaa
set_option linter.unusedVariables false
set_option linter.unusedSimpArgs false
open Go.RowKit

def GivesI (w : World) (xs : List Int) (en : Ending) (w' : World) : Prop := ∃ v, en = .returned v ∧ Own w' w.heap.size 2 1 v xs.length (iz .i64 xs) ∧ Fr No w w'
theorem rd_iz_nil {w : World} {B : Nat} {xs : List Int} (h : Rd w B none (iz .i64 xs)) : xs = [] := by
  cases xs with
  | nil => rfl
  | cons x r => obtain ⟨_, h, _⟩ := h 0 (.int .i64 x) rfl; cases h
theorem iz_onec (xs : List Int) : ∀ u ∈ iz .i64 xs, u.oneCell' = true := by
  intro u hu
  obtain ⟨x, _, rfl⟩ := List.mem_map.1 hu
  rfl
set_option maxRecDepth 100000 in
set_option maxHeartbeats 400000 in
theorem cloneI_any (A : Option Addr) (n c B : Nat) (xs : List Int) (w : World) (hl : xs.length = n) (hn : n ≤ c) (hc : c ≤ maxLen) (hb : n ≤ 17592186044416) (hr : Rd w B A (iz .i64 xs)) :
    Calls Try.prog 35 #[.slice A n c] w (GivesI w xs) := by
  have HR := hide hr; clear hr
  have HL := hide hl; clear hl
  obtain ⟨i0, hi, hz, hsz, hby⟩ := info_parts Try.infoKI64
  cases A with
  | none =>
    have he := fun W => Lib.run_eql_slice_nil (P := Try.prog) W 23 2 none n c 0 0 Try.underlying23
    go_enter Try.func35, Try.ntmps35
    go_wp2
    go_ret
    have h0 := rd_iz_nil HR.out
    subst h0
    exact ⟨_, rfl, Own.nil _ _ _ _, Fr.refl _ _⟩
  | some ad =>
    have he := fun W => Lib.run_eql_slice_nil (P := Try.prog) W 23 2 (some ad) n c 0 0 Try.underlying23
    have HS := hide (Src.ofRd (P := Try.prog) (size := 1) (w.alloc (.cells #[] 2)) Try.underlying23 (some ad) n c (iz .i64 xs) (by simp [iz, HL.out]) (by omega) (HR.out.fr0 ((Fr.refl _ _).alloc _)) (iz_onec _))
    go_enter Try.func35, Try.ntmps35
    have b1 : (0 + n) * 8 ≤ 140737488355328 := by omega
    have b2 : 0 + n ≤ maxLen := by unfold maxLen at *; omega
    have b3 : w.heap.size ≤ (w.alloc (.cells #[] 2)).heap.size := by simp
    go_wp2_with (at_builtin; (refine wpList_append_gen _ rfl (.tmp 5) (.tmp 6) 23 23 rfl w.heap.size 2 i0 (.int .i64 0) 1 8 Try.underlying23 hi hz hsz hby rfl _ 0 [] rfl (own_empty w 2) _ n (iz .i64 xs) rfl HS.out b1 b2 b3 ?_); intro v' w' hown hfr hat)
    go_ret
    refine ⟨v', rfl, by simpa [HL.out] using hown, ?_⟩
    exact ((Fr.refl No w).alloc _).own hfr (fun g h => .inl (Nat.le_of_eq (Option.some.inj h)))
end Go.Proofs.Ytpopbkcbplmcaaa
namespace Go.Proofs.Ytpopbkcbplmcaaa
set_option linter.unusedVariables false
set_option linter.unusedSimpArgs false
open Go.RowKit

set_option maxRecDepth 100000 in
set_option maxHeartbeats 400000 in
theorem blen_any (b gT dims : Nat) (l : List Pt) (w : World) (hT : TrM w b gT dims l) : Calls Try.prog 21 #[.pointer (some ⟨gT, 0, none⟩)] w (Ret (.int .i64 (l.length : Nat)) w) := by
  obtain ⟨gn, vlo, vhi, h1, _⟩ := hT.ex
  have k1 : w.cell? ⟨gT, 1, none⟩ = some (.int .i64 (l.length : Nat)) := cell_of_row w _ 1 _ _ _ h1
  clear h1
  generalize l.length = n at k1 ⊢
  go_enter Try.func21, Try.ntmps21
  go_wp2
  go_ret
  exact ⟨rfl, rfl⟩
set_option maxRecDepth 100000 in
set_option maxHeartbeats 400000 in
theorem bdims_any (b gT dims : Nat) (l : List Pt) (w : World) (hT : TrM w b gT dims l) : Calls Try.prog 22 #[.pointer (some ⟨gT, 0, none⟩)] w (Ret (.int .i64 (dims : Nat)) w) := by
  obtain ⟨gn, vlo, vhi, h1, _⟩ := hT.ex
  have k1 : w.cell? ⟨gT, 0, none⟩ = some (.int .i64 (dims : Nat)) := cell_of_row w _ 0 _ _ _ h1
  clear h1
  go_enter Try.func22, Try.ntmps22
  go_wp2
  go_ret
  exact ⟨rfl, rfl⟩
set_option maxRecDepth 100000 in
set_option maxHeartbeats 400000 in
theorem blen_nil (w : World) : Calls Try.prog 21 #[.pointer none] w (Ret (.int .i64 0) w) := by
  go_enter Try.func21, Try.ntmps21
  go_wp2
  go_ret
  exact ⟨rfl, rfl⟩
set_option maxRecDepth 100000 in
set_option maxHeartbeats 400000 in
theorem bdims_nil (w : World) : Calls Try.prog 22 #[.pointer none] w (Ret (.int .i64 0) w) := by
  go_enter Try.func22, Try.ntmps22
  go_wp2
  go_ret
  exact ⟨rfl, rfl⟩
set_option maxRecDepth 100000 in
set_option maxHeartbeats 400000 in
theorem bounds_nil (w : World) : Calls Try.prog 12 #[.pointer none] w (Ret (.tuple #[.slice none 0 0, .slice none 0 0]) w) := by
  go_enter Try.func12, Try.ntmps12
  go_wp2
  go_ret2
  exact ⟨rfl, rfl⟩
/-- two rows of the call's own. -/
def Gives2 (w : World) (xs ys : List Int) (en : Ending) (w' : World) : Prop := ∃ v1 v2, en = .returned (.tuple #[v1, v2]) ∧ Own w' w.heap.size 2 1 v1 xs.length (iz .i64 xs) ∧ Own w' w.heap.size 2 1 v2 ys.length (iz .i64 ys) ∧ (∀ k, v1.ownBlock = some k → v2.ownBlock ≠ some k) ∧ Fr No w w'
set_option maxRecDepth 100000 in
set_option maxHeartbeats 4000000 in
theorem bounds_any (b gT dims : Nat) (l : List Pt) (w : World) (hT : TrM w b gT dims l) (hm : mayP (dims : Int) l) : Calls Try.prog 12 #[.pointer (some ⟨gT, 0, none⟩)] w (Gives2 w (lowsB dims l) (highsB dims l)) := by
  obtain ⟨gn, vlo, vhi, h1, _, o1, o2⟩ := hT.ex
  obtain ⟨A1, c1, rfl, p1, p2, _, p3, _⟩ := o1.form
  obtain ⟨A2, c2, rfl, q1, q2, _, q3, _⟩ := o2.form
  have hd1 : (lowsB dims l).length ≤ 4 := by
    have := hm.2.1
    unfold lowsB
    split
    · simp
    · simp; omega
  have hd2 : (highsB dims l).length ≤ 4 := by
    have := hm.2.1
    unfold highsB
    split
    · simp
    · simp; omega
  have HC1 := hide (fun W (f : Fr No w W) => cloneI_any A1 _ c1 w.heap.size (lowsB dims l) W rfl p1 p2 (by omega) (p3.fr0 f))
  have HC2 := hide (fun W (f : Fr No w W) => cloneI_any A2 _ c2 w.heap.size (highsB dims l) W rfl q1 q2 (by omega) (q3.fr0 f))
  have HT := hide h1
  unfold Gives2
  obtain ⟨xs, hxs⟩ : ∃ x, x = lowsB dims l := ⟨_, rfl⟩
  obtain ⟨ys, hys⟩ : ∃ x, x = highsB dims l := ⟨_, rfl⟩
  rw [← hxs] at HC1 HT ⊢
  rw [← hys] at HC2 HT ⊢
  obtain ⟨n1, hn1⟩ : ∃ x, x = xs.length := ⟨_, rfl⟩
  obtain ⟨n2, hn2⟩ : ∃ x, x = ys.length := ⟨_, rfl⟩
  have HC1' : Hid (∀ W, Fr No w W → Calls Try.prog 35 #[.slice A1 n1 c1] W (GivesI W xs)) := hide (by rw [hn1]; exact HC1.out)
  have HC2' : Hid (∀ W, Fr No w W → Calls Try.prog 35 #[.slice A2 n2 c2] W (GivesI W ys)) := hide (by rw [hn2]; exact HC2.out)
  rw [← hn1, ← hn2] at HT
  rw [← hn1, ← hn2]
  have k3 : w.drew.cell? ⟨gT, 3, none⟩ = some (.slice A1 n1 c1) := cell_of_row w _ 3 _ _ _ HT.out
  have k4 : w.drew.cell? ⟨gT, 4, none⟩ = some (.slice A2 n2 c2) := cell_of_row w _ 4 _ _ _ HT.out
  have HN1 := hide hn1
  have HN2 := hide hn2
  clear HC1 HC2 h1 o1 o2 p1 p2 p3 q1 q2 q3 hd1 hd2 hxs hys hn1 hn2 hT hm
  go_enter Try.func12, Try.ntmps12
  go_upto_region 3 with (fail)
  have HF0 : Hid (Fr No w w.drew) := hide (Fr.refl No w).drew
  go_region_held3 (fun W => W.cell? ⟨gT, 3, none⟩ = some (.slice A1 n1 c1) ∧ W.cell? ⟨gT, 4, none⟩ = some (.slice A2 n2 c2)) (first | exact HK2.out | exact HK1.out | exact ⟨k3, k4⟩) (first
    | (go_at_call 35; refine (HC1'.out _ HF0.out).mono ?_; rintro en w1 ⟨v1, rfl, o1, f1⟩; have HO1 := hide o1; have HF1 := hide (HF0.out.tr f1); have HK1 := hide (And.intro (f1.cell k3 (fun h => h)) (f1.cell k4 (fun h => h))); have HC1 := HC1'; clear HC1' o1 f1)
    | (go_at_call 35; refine (HC2'.out _ HF1.out).mono ?_; rintro en w2 ⟨v2, rfl, o2, f2⟩; have HO2 := hide o2; have HO12 := hide (HO1.out.fr0 f2); have HSz := hide f2.size; have HF2 := hide (HF1.out.tr f2); have HK2 := hide (And.intro (f2.cell HK1.out.1 (fun h => h)) (f2.cell HK1.out.2 (fun h => h))); clear HC2' o2 f2))
  go_wp2_with (fail)
  go_ret2
  refine ⟨_, _, rfl, (by rw [HN1.out]; exact HO12.out), (by rw [HN2.out]; exact HO2.out.lower HF1.out.size), ?_, HF2.out⟩
  intro k h1 h2
  have a1 := (HO1.out.lt k h1).2
  have a2 := (HO2.out.lt k h2).1
  omega
end Go.Proofs.Ytpopbkcbplmcaaa
namespace Go.Proofs.Ytpopbkcbplmcaaa
set_option linter.unusedVariables false
set_option linter.unusedSimpArgs false
open Go.RowKit

set_option maxRecDepth 100000 in
set_option maxHeartbeats 800000 in
theorem sleq_any (A B : Option Addr) (n c m d b1 b2 : Nat) (xs ys : List UInt8) (w : World) (hx : xs.length = n) (hy : ys.length = m) (hn : n ≤ c) (hc : c ≤ maxLen) (hm : m ≤ d) (hd : d ≤ maxLen) (hr : Rd w b1 A (by8 xs)) (hs : Rd w b2 B (by8 ys)) :
    Calls Try.prog 34 #[.slice A n c, .slice B m d] w (RetQ (.bool (decide (xs = ys))) w) := by
  unfold maxLen at hc hd
  have HX := hide hx
  have HY := hide hy
  have HR := hide hr
  have HS := hide hs
  clear hx hy hr hs
  by_cases hnm : n = m
  · subst hnm
    have hb : ((n : Int) != n) = false := by simp
    go_enter Try.func34, Try.ntmps34
    go_wp2
    go_loopw [13] (fun i wr => ∃ k nq : Nat, k ≤ n ∧ i = .int .i64 k ∧ wr = w.drewN nq ∧ Hid (xs.take k = ys.take k)) (fun i _ => n - (intOf i).toNat)
    case atStart => exact ⟨0, 0, by omega, rfl, rfl, hide rfl⟩
    case round =>
      obtain ⟨k, nq, hk, rfl, rfl, HT⟩ := hrel
      by_cases hlt : k < n
      · have h1 : k < xs.length := by rw [HX.out]; exact hlt
        have h2 : k < ys.length := by rw [HY.out]; exact hlt
        obtain ⟨ad, rfl, _, hcell⟩ := HR.out.byte h1
        obtain ⟨bd, rfl, _, hcell2⟩ := HS.out.byte h2
        have HE := hide (fun he => take_succ_eq h1 h2 HT.out he)
        have HN := hide (show xs.getD k 0 ≠ ys.getD k 0 → xs ≠ ys from fun h e => h (by rw [e]))
        clear h1 h2
        generalize xs.getD k 0 = x at hcell HE HN
        generalize ys.getD k 0 = y at hcell2 HE HN
        by_cases he : x = y
        · subst he
          have HE' := hide (HE.out rfl)
          clear HE
          have hb2 : ((x.toNat : Int) != x.toNat) = false := by simp
          go_wp2
          go_quiet (fail)
          go_wp2
          go_round
          case rel => exact ⟨k + 1, _, by omega, by go_num, rfl, HE'⟩
          case measure => simp [intOf]; omega
        · have hb2 : ((x.toNat : Int) != y.toNat) = true := by
            simp
            intro h
            exact he (UInt8.toNat_inj.1 (by omega))
          go_wp2
          go_quiet (fail)
          go_wp2
          go_ret
          exact ⟨by simp [HN.out he], _, World.drewN_drewN _ _ _⟩
      · have HF := hide (show xs = ys by
          have h := HT.out
          rwa [List.take_of_length_le (by rw [HX.out]; omega), List.take_of_length_le (by rw [HY.out]; omega)] at h)
        go_wp2
        go_ret
        exact ⟨by simp [HF.out], _, rfl⟩
  · have hb : ((n : Int) != m) = true := by simp; omega
    have HF := hide (show xs ≠ ys from fun e => hnm (by rw [← HX.out, ← HY.out, e]))
    go_enter Try.func34, Try.ntmps34
    go_wp2
    go_ret
    exact ⟨by simp [HF.out], 0, rfl⟩
end Go.Proofs.Ytpopbkcbplmcaaa
