/- The document's May and Build, walked. -/
import Derived.Test.YtkenjhalamdjfaaBkV
namespace Go.Proofs.Ytkenjhalamdjfaa
set_option linter.unusedVariables false
set_option linter.unusedSimpArgs false
open Go.RowKit

set_option maxRecDepth 100000 in
set_option maxHeartbeats 2000000 in
theorem may_any (A : Option Addr) (n c B : Nat) (dims : Int) (l : List Po) (w : World) (hl : l.length = n) (hn : n ≤ c) (hc : c ≤ maxLen) (hr : RdPo w B A l) :
    Calls Try.prog 13 #[.int .i64 dims, .slice A n c] w (Ret (.bool (decide (mayP dims l))) w) := by
  have HL := hide hl
  have HR := hide hr
  unfold maxLen at hc
  clear hr hl
  obtain ⟨r, hr⟩ : ∃ r, r = decide (mayP dims l) := ⟨_, rfl⟩
  rw [← hr]
  have HRr := hide hr
  clear hr
  by_cases g1 : dims < 1
  · have HNo : Hid (r = false) := hide (by rw [HRr.out]; exact decide_eq_false (fun h => by have := h.1; omega))
    have d1 : decide (dims < 1) = true := decide_eq_true g1
    go_enter Try.func13, Try.ntmps13
    go_wp2
    go_ret
    exact ⟨by rw [HNo.out]; rfl, rfl⟩
  have d1 : decide (dims < 1) = false := decide_eq_false g1
  by_cases g2 : 4 < dims
  · have HNo : Hid (r = false) := hide (by rw [HRr.out]; exact decide_eq_false (fun h => by have := h.2.1; omega))
    have d2 : decide (4 < dims) = true := decide_eq_true g2
    go_enter Try.func13, Try.ntmps13
    go_wp2
    go_ret
    exact ⟨by rw [HNo.out]; rfl, rfl⟩
  have d2 : decide (4 < dims) = false := decide_eq_false g2
  by_cases g3 : 1048576 < n
  · have HNo : Hid (r = false) := hide (by rw [HRr.out]; exact decide_eq_false (fun h => by have := h.2.2.1; have := HL.out; omega))
    have d3 : decide (1048576 < n) = true := decide_eq_true g3
    have d4 : decide ((1048576 : Int) < (n : Int)) = true := decide_eq_true (by omega)
    go_enter Try.func13, Try.ntmps13
    go_wp2
    go_ret
    exact ⟨by rw [HNo.out]; rfl, rfl⟩
  have d3 : decide (1048576 < n) = false := decide_eq_false g3
  have d4 : decide ((1048576 : Int) < (n : Int)) = false := decide_eq_false (by omega)
  obtain ⟨dn, rfl⟩ : ∃ m : Nat, dims = (m : Int) := ⟨dims.toNat, by omega⟩
  have hdn1 : 1 ≤ dn := by omega
  have hdn4 : dn ≤ 4 := by omega
  have hn20 : n ≤ 1048576 := by omega
  clear g1 g2 g3
  go_enter Try.func13, Try.ntmps13
  go_wp2
  clear d1 d2 d3 d4
  go_loopw [5] (fun i wr => ∃ k : Nat, k ≤ n ∧ i = .int .i64 (k : Nat) ∧ Hid (∀ p ∈ l.take k, (p.2.length : Int) = (dn : Int) ∧ 0 ≤ p.1 ∧ p.1 < 16384) ∧ wr = w) (fun i _ => n - (intOf i).toNat)
  case atStart => exact ⟨0, by omega, by go_num, hide (fun p hp => by rw [List.take_zero] at hp; cases hp), rfl⟩
  case round =>
    obtain ⟨k, hk, rfl, HS, rfl⟩ := hrel
    by_cases hlt : k < n
    · have hk1 : k < l.length := by rw [HL.out]; exact hlt
      obtain ⟨ad, A1, c1, rfl, _, k0, k1, e1, e2, hrk⟩ := HR.out.at hk1
      have hmem := getP_mem hk1
      have htk := take_snocP hk1
      obtain ⟨pk, hpke⟩ : ∃ x, x = l.getD k noPo := ⟨_, rfl⟩
      rw [← hpke] at k0 k1 e1 hmem htk
      obtain ⟨pl, hpl⟩ : ∃ x, x = pk.2.length := ⟨_, rfl⟩
      obtain ⟨pd, hpd⟩ : ∃ x, x = pk.1 := ⟨_, rfl⟩
      rw [← hpl] at k1 e1
      rw [← hpd] at k0
      have HMm := hide hmem
      have HTk := hide htk
      have HPl := hide hpl
      have HPd := hide hpd
      unfold maxLen at e2
      clear hk1 hmem htk hpke hpl hpd hrk
      by_cases h1 : pl = dn
      · subst h1
        have e3 : ((pl : Int) != (pl : Int)) = false := by simp
        by_cases h2 : pd < 0
        · have HNo : Hid (r = false) := hide (by rw [HRr.out]; exact decide_eq_false (fun h => by have := (h.2.2.2 pk HMm.out).2.1; have := HPd.out; omega))
          have d5 : decide (pd < 0) = true := decide_eq_true h2
          go_wp2
          go_ret
          exact ⟨by rw [HNo.out]; rfl, rfl⟩
        · have d5 : decide (pd < 0) = false := decide_eq_false h2
          by_cases h3 : 16384 ≤ pd
          · have HNo : Hid (r = false) := hide (by rw [HRr.out]; exact decide_eq_false (fun h => by have := (h.2.2.2 pk HMm.out).2.2; have := HPd.out; omega))
            have d6 : decide (16384 ≤ pd) = true := decide_eq_true h3
            go_wp2
            go_ret
            exact ⟨by rw [HNo.out]; rfl, rfl⟩
          · have d6 : decide (16384 ≤ pd) = false := decide_eq_false h3
            have HS' : Hid (∀ p ∈ l.take (k + 1), (p.2.length : Int) = (pl : Int) ∧ 0 ≤ p.1 ∧ p.1 < 16384) := hide (fun p hp => by
              rw [HTk.out] at hp
              rcases List.mem_append.1 hp with hp | hp
              · exact HS.out p hp
              · rw [List.mem_singleton.1 hp, ← HPl.out, ← HPd.out]; omega)
            go_wp2
            go_roundw
            case rel => exact ⟨k + 1, by omega, by go_num, HS', trivial⟩
            case measure => simp [intOf]; omega
      · have e3 : ((pl : Int) != (dn : Int)) = true := by simpa using (by omega : ¬ (pl : Int) = (dn : Int))
        have HNo : Hid (r = false) := hide (by rw [HRr.out]; exact decide_eq_false (fun h => by have := (h.2.2.2 pk HMm.out).1; have := HPl.out; omega))
        clear h1
        go_wp2
        go_ret
        exact ⟨by rw [HNo.out]; rfl, rfl⟩
    · obtain rfl : k = n := by omega
      have hall : l.take k = l := List.take_of_length_le (by rw [HL.out]; exact Nat.le_refl _)
      rw [hall] at HS
      have HYes : Hid (r = true) := hide (by rw [HRr.out]; exact decide_eq_true ⟨by omega, by omega, by rw [HL.out]; exact hn20, HS.out⟩)
      clear hall hlt
      go_wp2
      go_ret
      exact ⟨by rw [HYes.out]; rfl, rfl⟩
set_option maxRecDepth 100000 in
set_option maxHeartbeats 2000000 in
theorem rbuild_any (A : Option Addr) (n c B : Nat) (dims : Int) (l : List Po) (w : World) (hl : l.length = n) (hn : n ≤ c) (hc : c ≤ maxLen) (hB : B ≤ w.heap.size) (hi : InI2 l) (hr : RdPo w B A l) :
    Calls Try.prog 7 #[.int .i64 dims, .slice A n c] w (GivesB w (keptP dims l)) := by
  have HMay := hide (may_any A n c B dims l w hl hn hc hr)
  by_cases hm : mayP dims l
  · have hm0 : decide (mayP dims l) = true := decide_eq_true hm
    rw [hm0] at HMay
    obtain ⟨i5, hi5, hz5, hsz5, hby5⟩ := info_parts Try.info5
    obtain ⟨m1, m2, m3, m4⟩ := id hm
    obtain ⟨dn, rfl⟩ : ∃ m : Nat, dims = (m : Int) := ⟨dims.toNat, by omega⟩
    have HK : Hid (keptP ((dn : Nat) : Int) l = enc dn ++ enc n ++ treeP dn l) := hide (by rw [keptP_yes hm, buildT, hl])
    have hdn1 : 1 ≤ dn := by omega
    have hdn4 : dn ≤ 4 := by omega
    have HTr := hide (fun W (f : Fr No w W) => tree_any dn ⟨hdn1, hdn4⟩ n A c B l W hl (by omega) hn hc (Nat.le_trans hB f.size) (fun p hp => ⟨by have := (m4 p hp).1; omega, (hi p hp).1, (m4 p hp).2.1, (m4 p hp).2.2⟩) (hr.fr0 f))
    have htl : (treeP dn l).length ≤ 110 * 1048576 := by
      by_cases h0 : 1 ≤ n
      · have := treeP_le dn n l hl h0 (fun p hp => by have := (m4 p hp).1; omega); omega
      · have hl0 : l = [] := List.eq_nil_of_length_eq_zero (by omega)
        rw [hl0, treeP_leaf (by simp)]
        have := (enc_len 0).2
        simp [sortP, ptsB]; omega
    obtain ⟨T, hT⟩ : ∃ T, T = treeP dn l := ⟨_, rfl⟩
    rw [← hT] at HK HTr htl
    obtain ⟨tn, htn⟩ : ∃ x, x = T.length := ⟨_, rfl⟩
    rw [← htn] at htl
    have HTn := hide htn
    have HU1 := hide (fun W => refUint_any dn W (by omega))
    have HU2 := hide (fun W => refUint_any n W (by omega))
    obtain ⟨ed, hed⟩ : ∃ y, y = (enc dn).length := ⟨_, rfl⟩
    have hed10 := (enc_len dn).2
    rw [← hed] at hed10
    obtain ⟨en_, hen⟩ : ∃ y, y = (enc n).length := ⟨_, rfl⟩
    have hen10 := (enc_len n).2
    rw [← hen] at hen10
    have HEd := hide hed
    have HEn := hide hen
    have b1 : (ed + en_) * 1 ≤ 140737488355328 := by omega
    have b2 : ed + en_ ≤ maxLen := by unfold maxLen; omega
    have b3 : (ed + en_ + tn) * 1 ≤ 140737488355328 := by omega
    have b4 : ed + en_ + tn ≤ maxLen := by unfold maxLen; omega
    have hnm : n ≤ 1048576 := by omega
    unfold maxLen at hc
    clear hm hm0 m1 m2 m3 m4 hl hr hi hT htn hed hen hB
    go_enter Try.func7, Try.ntmps7
    go_wp2_with (fail)
    refine HMay.out.mono ?_
    rintro en w1 ⟨rfl, rfl⟩
    go_wp2_with (fail)
    refine (HU1.out _).mono ?_
    rintro en w2 ⟨v2, rfl, hown, hfr⟩
    rw [← HEd.out] at hown
    have HO2 := hide hown
    have HF2 := hide hfr
    clear hown hfr HU1 HMay
    go_wp2_with (fail)
    refine (HU2.out _).mono ?_
    rintro en w3 ⟨v3, rfl, hown, hfr⟩
    rw [← HEn.out] at hown
    obtain ⟨A3, c3, rfl, p1, p2, _, p3, _⟩ := hown.form
    have HS3 := hide (Src.ofRd (P := Try.prog) (size := 1) w3 Try.underlying28 A3 en_ c3 (by8 (enc n)) (by rw [by8_length, ← HEn.out, Nat.mul_one]) (by omega) p3 (by8_one _))
    have HO3 := hide (HO2.out.fr0 hfr)
    have HF3 := hide (HF2.out.tr hfr)
    have hz3 := HF3.out.size
    unfold maxLen at p2
    clear hown hfr p3 HU2 HO2 HF2
    go_wp2_with (at_builtin; refine wpList_append_gen _ rfl (.tmp 13) (.tmp 17) 28 28 rfl w.heap.size 5 i5 (.int .u8 0) 1 1 Try.underlying28 hi5 hz5 hsz5 hby5 rfl v2 ed (by8 (enc dn)) rfl HO3.out _ en_ (by8 (enc n)) rfl HS3.out b1 b2 hz3 ?_; intro v4 w4 hown hfr hat; rw [← by8_append] at hown; have HO4 := hide hown; have HF4 := hide (HF3.out.own hfr (fun g hg => .inl (HO3.out.lt g hg).1)); clear hown hfr hat)
    have HTw := hide (HTr.out w4 HF4.out)
    clear HTr HS3 HO3 HF3 hz3 b1 b2
    refine HTw.out.mono ?_
    rintro en w5 ⟨v5, rfl, hown, hfr⟩
    rw [← HTn.out] at hown
    obtain ⟨A5, c5, rfl, p1, p2, _, p3, _⟩ := hown.form
    have HS5 := hide (Src.ofRd (P := Try.prog) (size := 1) w5 Try.underlying28 A5 tn c5 (by8 T) (by rw [by8_length, ← HTn.out, Nat.mul_one]) (by omega) p3 (by8_one _))
    have HO5 := hide (HO4.out.fr0 hfr)
    have HF5 := hide (HF4.out.tr hfr)
    have hz5' := HF5.out.size
    unfold maxLen at p2
    clear hown hfr p3 HTw HO4 HF4
    go_wp2_with (at_builtin; refine wpList_append_gen _ rfl (.tmp 19) (.tmp 22) 28 28 rfl w.heap.size 5 i5 (.int .u8 0) 1 1 Try.underlying28 hi5 hz5 hsz5 hby5 rfl v4 (ed + en_) (by8 (enc dn ++ enc n)) rfl HO5.out _ tn (by8 T) rfl HS5.out b3 b4 hz5' ?_; intro v6 w6 hown hfr hat; rw [← by8_append] at hown; have HO6 := hide hown; have HF6 := hide (HF5.out.own hfr (fun g hg => .inl (HO5.out.lt g hg).1)); clear hown hfr hat)
    go_ret
    refine ⟨v6, rfl, ?_, HF6.out⟩
    rw [HK.out, List.length_append, List.length_append, ← HEd.out, ← HEn.out, ← HTn.out]
    exact HO6.out
  · have hm0 : decide (mayP dims l) = false := decide_eq_false hm
    rw [hm0] at HMay
    have HNo : Hid (keptP dims l = []) := hide (keptP_no hm)
    unfold maxLen at hc
    clear hm hm0 hl hr hi hB
    go_enter Try.func7, Try.ntmps7
    go_wp2_with (fail)
    refine HMay.out.mono ?_
    rintro en w1 ⟨rfl, rfl⟩
    go_wp2_with (fail)
    go_ret
    rw [HNo.out]; exact givesB_nil _ _ (Fr.refl _ _)
end Go.Proofs.Ytkenjhalamdjfaa
