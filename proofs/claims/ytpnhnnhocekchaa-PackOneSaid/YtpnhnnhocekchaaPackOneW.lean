/- The walk of PackOne: it answers true; nothing that was there has changed. No condition. -/
import Derived.Test.YtpnhnnhocekchaaAwake03
namespace Go.Proofs.Ytpnhnnhocekchaa
set_option linter.unusedVariables false
set_option linter.unusedSimpArgs false
open Go.RowKit

set_option maxRecDepth 100000 in
set_option maxHeartbeats 600000 in
theorem packone_any (A : Option Addr) (m c : Nat) (ni cut : Int) (b : List UInt8) (w : World) (hz : -9223372036854775808 ≤ cut ∧ cut ≤ 9223372036854775807) (hl : b.length = m) (hm : m ≤ c) (hc : c ≤ maxLen) (hm2 : m ≤ 140737488351232) (hr : Rd w w.heap.size A (by8 b)) :
    Calls Try.prog 7 #[.slice A m c, .int .i64 ni, .int .i64 cut] w (RetB true w) := by
  have HAw := hide awake03_any
  by_cases h1 : 1000 < ni
  · clear hl hm hc hm2 hr hz
    go_enter Try.func7, Try.ntmps7
    go_wp2_with (fail)
    refine (HAw.out _).mono ?_
    rintro en w1 ⟨rfl, hfr⟩
    have HF := hide hfr
    clear hfr
    go_wp2
    go_ret
    exact ⟨rfl, HF.out⟩
  have HL := hide hl
  have HR := hide hr
  have HMC := hide hm
  have HC := hide hc
  have HGe := hide (fun (W : World) (f : Fr No w W) => get_any A m c _ ni b W hl (by omega) hm hc (Nat.le_refl _) ((hr.fr0 f).more f.size))
  rcases getZ_cases b ni with ⟨q1, q2, q3, _⟩ | ⟨q0, q1, q2, q3, q4, q5⟩
  · obtain ⟨er, her⟩ : ∃ er, er = (getZ b ni).2.2 := ⟨_, rfl⟩
    rw [← her] at q1
    have e : getZ b ni = ([], 0, er) := by
      rw [show getZ b ni = ((getZ b ni).1, (getZ b ni).2.1, (getZ b ni).2.2) from rfl, q2, q3, ← her]
    rw [e] at HGe
    clear e her q2 q3 hl hr hc
    go_enter Try.func7, Try.ntmps7
    go_wp2_with (fail)
    refine (HAw.out _).mono ?_
    rintro en w1 ⟨rfl, hfr⟩
    have F1 : Hid (Fr No w w1) := hide hfr
    clear hfr
    go_wp2_with (fail)
    refine (HGe.out _ F1.out).mono ?_
    rintro en w2 ⟨v2, rfl, hown, hfr⟩
    have F2 : Hid (Fr No w w2) := hide (F1.out.tr hfr)
    obtain ⟨B2, d2, rfl, _⟩ := hown.form
    clear hfr hown
    go_wp2
    go_ret
    exact ⟨by simp, F2.out⟩
  · obtain ⟨ln, hln⟩ : ∃ ln, ln = (getZ b ni).1.length := ⟨_, rfl⟩
    rw [← hln] at q2
    subst q2
    have h1' : ¬ (1000 : Int) < (ln : Int) := by omega
    obtain ⟨x, hx⟩ : ∃ x, x = (getZ b (ln : Int)).1 := ⟨_, rfl⟩
    obtain ⟨k, hk⟩ : ∃ k, k = (getZ b (ln : Int)).2.1 := ⟨_, rfl⟩
    have e : getZ b (ln : Int) = (x, k, 0) := by
      rw [show getZ b (ln : Int) = ((getZ b (ln : Int)).1, (getZ b (ln : Int)).2.1, (getZ b (ln : Int)).2.2) from rfl, q0, ← hx, ← hk]
    have hsh : ∀ cc : Nat, cc < k → (getZ (b.take cc) (ln : Int)).2.2 = 20 := fun cc h => getZ_short q0 (by rw [← hk]; exact h)
    rw [← hx] at hln q3 q5
    rw [← hk] at q4 q5
    have q4' : k ≤ m := by rw [← hl]; exact q4
    rw [e] at HGe
    have HSh := hide hsh
    have HLn := hide hln
    have HI := hide q3
    have HP5 := hide q5
    have hpl : (putR x).length = k := by rw [q5, List.length_take]; omega
    have HPL := hide hpl
    have HKB := hide (fun (W : World) (f : Fr No w W) (B : Option Addr) (d : Nat) (e1 : k ≤ d) (e2 : d ≤ maxLen) (r : Rd W W.heap.size B (by8 (putR x))) => bytes_b B A k d k c (putR x) (b.take k) W hpl (by rw [← q5]; exact hpl) e1 e2 (by omega) hc r (by rw [by8_take]; exact ((HR.out.fr0 f).more f.size).tk k))
    rw [q5, decide_eq_true rfl] at HKB
    rw [← q5] at HKB
    have HPu := hide (fun (W : World) (B : Option Addr) (d : Nat) (e1 : ln ≤ d) (e2 : d ≤ maxLen) (r : Rd W W.heap.size B (iz .i64 x)) => put_any B ln d _ x W hln.symm q3 e1 e2 (by omega) (Nat.le_refl _) r)
    clear e hx hk hsh q0 q1 q3 q4 q5 hln hpl hl hr hc
    go_enter Try.func7, Try.ntmps7
    go_wp2_with (fail)
    refine (HAw.out _).mono ?_
    rintro en w1 ⟨rfl, hfr⟩
    have F1 : Hid (Fr No w w1) := hide hfr
    clear hfr
    go_wp2_with (fail)
    refine (HGe.out _ F1.out).mono ?_
    rintro en w2 ⟨v2, rfl, hown, hfr⟩
    have F2 : Hid (Fr No w w2) := hide (F1.out.tr hfr)
    have O2 := hide hown
    rw [← HLn.out] at O2
    obtain ⟨B2, d2, rfl, x1, x2, _⟩ := O2.out.form
    have X2 := hide x2
    have hkc : (k : Int) ≤ (c : Int) := by omega
    have hkm : (k : Int) ≤ (m : Int) := by omega
    have hkm2 : ¬ (m : Int) < (k : Int) := by omega
    have hk0 : (0 : Int) ≤ (k : Int) := by omega
    have hkd : decide (m < k) = false := decide_eq_false (by omega)
    have hkd2 : decide ((m : Int) < (k : Int)) = false := decide_eq_false (by omega)
    clear hfr hown x2
    go_wp2
    go_region_held3 (fun _ => True) (first | exact trivial) (first
      | (go_at_call 30; refine (HPu.out w2.drew B2 d2 x1 X2.out (O2.out.fr0 ((Fr.refl No _).drew)).rd).mono ?_; rintro en w3 ⟨v3, rfl, hown, hfr⟩; rw [HPL.out] at hown; have O3 := hide hown; have G3 : Hid (Fr No w2 w3) := hide (Fr.tr (Fr.refl _ _).drew hfr); obtain ⟨B3, d3, rfl, y1, y2, y3, y4, _⟩ := O3.out.form; have HB3 := hide (HKB.out w3 (F2.out.tr G3.out) B3 d3 y1 y2 y4); clear hfr hown y2 y3 y4)
      | (go_at_call 23; refine HB3.out.mono ?_; rintro en w4 ⟨rfl, hfr⟩; have G4 : Hid (Fr No w2 w4) := hide (G3.out.tr hfr); clear hfr))
    have F4 : Hid (Fr No w w4) := hide (F2.out.tr G4.out)
    by_cases hk1 : k = 0
    · subst hk1
      go_wp2
      go_ret
      exact ⟨rfl, F4.out⟩
    · have hk1' : ¬ (k : Int) = 0 := by omega
      by_cases hcu : cut < 0
      · go_wp2
        go_ret
        exact ⟨rfl, F4.out⟩
      · have hkp : (k : Int) ≠ 0 := by omega
        have e1 := Int.emod_nonneg cut hkp
        have e2 := Int.emod_lt_of_pos cut (show (0 : Int) < (k : Int) by omega)
        obtain ⟨cc, hcc⟩ := Int.eq_ofNat_of_zero_le e1
        have hcc' : cut % (k : Int) = (cc : Int) := hcc
        have e3 : (cc : Int) < (k : Int) := by rw [← hcc']; exact e2
        have e4 : (cc : Int) ≤ (c : Int) := by omega
        have htm : cut.tmod (k : Int) = (cc : Int) := by rw [Int.tmod_eq_emod_of_nonneg (by omega)]; exact hcc'
        have hxx := HSh.out cc (by omega)
        have hget := get_any A cc c w4.heap.size ln (b.take cc) w4 (by rw [List.length_take, HL.out]; omega) (by omega) (by omega) HC.out (Nat.le_refl _) (by rw [by8_take]; exact ((HR.out.fr0 F4.out).more F4.out.size).tk cc)
        obtain ⟨y, er, hey⟩ : ∃ y e0, getZ (b.take cc) (ln : Int) = (y, e0, 20) := ⟨(getZ (b.take cc) (ln : Int)).1, (getZ (b.take cc) (ln : Int)).2.1, by rw [← hxx]⟩
        rw [hey] at hget
        have HG2 := hide hget
        clear hget hey hxx hcc e1 e2
        go_wp2_with (fail)
        refine HG2.out.mono ?_
        rintro en w5 ⟨v5, rfl, hown, hfr⟩
        have F5 : Hid (Fr No w w5) := hide (F4.out.tr hfr)
        obtain ⟨B5, d5, rfl, _⟩ := hown.form
        clear hfr hown
        go_wp2
        go_ret
        exact ⟨rfl, F5.out⟩
end Go.Proofs.Ytpnhnnhocekchaa
