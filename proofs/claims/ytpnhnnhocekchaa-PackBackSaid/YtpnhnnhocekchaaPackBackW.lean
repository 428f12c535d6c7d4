/- The walk of PackBack: it answers true; nothing that was there has changed. No condition. -/
import Derived.Test.YtpnhnnhocekchaaAwake03
import Derived.Test.YtpnhnnhocekchaaRefPut03
import Derived.Laws.BitsLemmas
namespace Go.Proofs.Ytpnhnnhocekchaa
set_option linter.unusedVariables false
set_option linter.unusedSimpArgs false
open Go.RowKit

theorem back_unb {us : List Nat} (h : In64 us) {w : Nat} (hw : wid us ≤ w) (hw2 : w ≤ 64) (hl : us.length ≤ 1000) : unbitsZ (bitsZ us (w : Int)) (w : Int) ((us.length : Nat) : Int) = (us, 0) := by
  have e : bitsZ us (w : Int) = packed w us := by unfold bitsZ; rw [if_pos (by omega)]; rfl
  rw [e]
  unfold unbitsZ
  rw [if_neg (by omega), Int.toNat_natCast, Int.toNat_natCast, if_neg, unpack_pack]
  · intro u hu
    exact Nat.lt_of_lt_of_le (wid_lt h u hu) (p2 hw)
  · rintro (h1 | h1)
    · exact h1 (packed_len _ _)
    · exact h1 (packed_left _ _)

theorem and_i64 (x : Int) (m : Nat) (hm : m < 9223372036854775808) : 0 ≤ bits .and .i64 x (m : Int) ∧ bits .and .i64 x (m : Int) ≤ m := by
  have h : bits .and .i64 x (m : Int) = IntKind.i64.wrap (((BitVec.ofInt 64 x &&& BitVec.ofInt 64 (m : Int)).toNat : Nat) : Int) := rfl
  have h2 : (BitVec.ofInt 64 x &&& BitVec.ofInt 64 (m : Int)).toNat ≤ m := by
    rw [BitVec.toNat_and, BitVec.ofInt_natCast]
    refine Nat.le_trans Nat.and_le_right ?_
    rw [BitVec.toNat_ofNat]
    exact Nat.mod_le _ _
  rw [h, IntKind.wrap_i64]
  omega

set_option maxRecDepth 100000 in
set_option maxHeartbeats 4000000 in
theorem packback_any (A : Option Addr) (n c : Nat) (A2 : Option Addr) (m c2 : Nat) (mo : Int) (A3 : Option Addr) (q c3 : Nat) (l : List Int) (us : List Nat) (b : List UInt8) (w : World) (hl : l.length = n) (hi : InI l) (hn : n ≤ c) (hc : c ≤ maxLen) (hr : Rd w w.heap.size A (iz .i64 l)) (hul : us.length = m) (h64 : In64 us) (hm : m ≤ c2) (hc2 : c2 ≤ maxLen) (hru : Rd w w.heap.size A2 (nz us)) (hbl : b.length = q) (hq : q ≤ c3) (hc3 : c3 ≤ maxLen) (hrb : Rd w w.heap.size A3 (by8 b)) :
    Calls Try.prog 6 #[.slice A n c, .slice A2 m c2, .int .i64 mo, .slice A3 q c3] w (RetB true w) := by
  have HAw := hide awake03_any
  have HC := hide hc
  have HC2 := hide hc2
  have HC3 := hide hc3
  by_cases h1 : 1000 < n
  · have h1' : (1000 : Int) < (n : Int) := by omega
    clear hl hi hn hc hr hul h64 hm hc2 hru hbl hq hc3 hrb
    go_enter Try.func6, Try.ntmps6
    go_wp2_with (fail)
    refine (HAw.out _).mono ?_
    rintro en w1 ⟨rfl, hfr⟩
    have HF := hide hfr
    clear hfr
    go_wp2
    go_ret
    exact ⟨rfl, HF.out⟩
  by_cases h2 : 1000 < m
  · have h1' : ¬ (1000 : Int) < (n : Int) := by omega
    have h2' : (1000 : Int) < (m : Int) := by omega
    clear hl hi hn hc hr hul h64 hm hc2 hru hbl hq hc3 hrb
    go_enter Try.func6, Try.ntmps6
    go_wp2_with (fail)
    refine (HAw.out _).mono ?_
    rintro en w1 ⟨rfl, hfr⟩
    have HF := hide hfr
    clear hfr
    go_wp2
    go_ret
    exact ⟨rfl, HF.out⟩
  by_cases h3 : 1000 < q
  · have h1' : ¬ (1000 : Int) < (n : Int) := by omega
    have h2' : ¬ (1000 : Int) < (m : Int) := by omega
    have h3' : (1000 : Int) < (q : Int) := by omega
    clear hl hi hn hc hr hul h64 hm hc2 hru hbl hq hc3 hrb
    go_enter Try.func6, Try.ntmps6
    go_wp2_with (fail)
    refine (HAw.out _).mono ?_
    rintro en w1 ⟨rfl, hfr⟩
    have HF := hide hfr
    clear hfr
    go_wp2
    go_ret
    exact ⟨rfl, HF.out⟩
  have h1' : ¬ (1000 : Int) < (n : Int) := by omega
  have h2' : ¬ (1000 : Int) < (m : Int) := by omega
  have h3' : ¬ (1000 : Int) < (q : Int) := by omega
  obtain ⟨k, hk⟩ : ∃ k, k = (putR l).length := ⟨_, rfl⟩
  have HL := hide hl
  have HI := hide hi
  have HR := hide hr
  have HUL := hide hul
  have H64 := hide h64
  have HRU := hide hru
  have HBL := hide hbl
  have HRB := hide hrb
  have hk2 : k ≤ 1000000 := by
    rw [hk]; unfold putR; have := putUp_le hi (chunks l.length); rw [hl] at this ⊢; unfold chunks at this ⊢; omega
  have HK := hide hk
  have hG : getZ (putR l ++ b) (n : Nat) = (l, k, 0) := by rw [hk, ← hl]; exact getZ_put (by omega) hi b
  have HG := hide hG
  have HPu := hide (fun (W : World) (f : Fr No w W) => put_any A n c _ l W HL.out HI.out hn hc (by omega) (Nat.le_refl _) ((HR.out.fr0 f).more f.size))
  obtain ⟨j0, hj0, jz, jsz, jby⟩ := info_parts Try.info5
  have b1 : (k + q) * 1 ≤ 140737488355328 := by omega
  have b2 : k + q ≤ maxLen := by unfold maxLen; omega
  have HQ := hide hq
  have HN := hide hn
  have HM := hide hm
  clear hl hi hc hr hul h64 hc2 hru hbl hc3 hrb hk hG
  go_enter Try.func6, Try.ntmps6
  go_wp2_with (fail)
  refine (HAw.out _).mono ?_
  rintro en w1 ⟨rfl, hfr⟩
  have F1 : Hid (Fr No w w1) := hide hfr
  clear hfr
  go_wp2_with (fail)
  refine (HPu.out _ F1.out).mono ?_
  rintro en w2 ⟨v2, rfl, hown, hfr⟩
  rw [← HK.out] at hown
  obtain ⟨B2, d2, rfl, _⟩ := hown.form
  have F2 : Hid (Fr No w w2) := hide (F1.out.tr hfr)
  clear hfr hown
  go_wp2_with (fail)
  refine (HPu.out _ F2.out).mono ?_
  rintro en w3 ⟨v3, rfl, hown, hfr⟩
  rw [← HK.out] at hown
  obtain ⟨B3, d3, rfl, _⟩ := hown.form
  have F3 : Hid (Fr No w w3) := hide (F2.out.tr hfr)
  have O3 := hide hown
  have S3 := hide (Src.ofRd (P := Try.prog) (size := 1) w3 Try.underlying23 A3 q c3 (by8 b) (by rw [by8_length, HBL.out]; omega) (by omega) ((HRB.out.fr0 F3.out).more F3.out.size) (by8_one _))
  have b3 := hfr.size
  clear hfr hown
  go_wp2_with (first | (at_builtin; refine wpList_append_gen _ rfl (.tmp 41) (.tmp 42) 23 23 rfl w2.heap.size 5 j0 (.int .u8 0) 1 1 Try.underlying23 hj0 jz jsz jby rfl (.slice B3 k d3) k (by8 (putR l)) rfl O3.out _ q (by8 b) rfl S3.out b1 b2 b3 ?_; intro v4 w4 hown hfr hat; have F4 : Hid (Fr No w w4) := hide (F3.out.own hfr (fun g hg => .inl (Nat.le_trans F2.out.size (O3.out.lt g hg).1))); obtain ⟨B4, d4, rfl, x1, x2, _⟩ := hown.form; rw [← by8_append] at hown; have HGe := hide (get_any B4 (k + q) d4 w4.heap.size (n : Nat) (putR l ++ b) w4 (by rw [List.length_append, HBL.out, ← HK.out]) (by omega) x1 x2 (Nat.le_refl _) hown.rd); rw [HG.out] at HGe; clear hown hfr hat x1 x2) | fail)
  refine HGe.out.mono ?_
  rintro en w5 ⟨v5, rfl, hown, hfr⟩
  have F5 : Hid (Fr No w w5) := hide (F4.out.tr hfr)
  rw [HL.out] at hown
  obtain ⟨B5, d5, rfl, x1, x2, _⟩ := hown.form
  have HI5 := hide (i64_b B5 A n d5 n c l l w5 HL.out HL.out x1 x2 HN.out HC.out hown.rd ((HR.out.fr0 F5.out).more F5.out.size))
  clear hown hfr x1 x2 HGe
  go_wp2_with (fail)
  refine HI5.out.mono ?_
  rintro en w6 ⟨rfl, hfr⟩
  have F6 : Hid (Fr No w w6) := hide (F5.out.tr hfr)
  clear hfr HI5
  obtain ⟨wd, hwd⟩ : ∃ x, x = wid us := ⟨_, rfl⟩
  have hwd2 : wd ≤ 64 := by rw [hwd]; exact wid_64 H64.out
  have HWD := hide hwd
  have HWi := hide (width_any A2 m c2 _ us w6 HUL.out H64.out hm HC2.out ((HRU.out.fr0 F6.out).more F6.out.size))
  rw [← hwd] at HWi
  clear hwd
  obtain ⟨g1, g2⟩ := and_i64 mo 63 (by omega)
  obtain ⟨g, hg⟩ := Int.eq_ofNat_of_zero_le g1
  have hg' : bits .and .i64 mo 63 = (g : Int) := hg
  have g3 : g ≤ 63 := by omega
  have HX : Hid (wd ≤ wd + g) := hide (by omega)
  clear hg g1 g2
  have fin : ∀ (wi : Int) (wv : Nat), wi = wv → wd ≤ wv → wv ≤ 64 → ∀ W : World, Fr No w W → Calls Try.prog 17 #[.slice A2 m c2, .int .i64 wi] W (GivesB W (bitsZ us wi)) := fun wi wv e0 e1 e2 W f => bits_any A2 m c2 _ wi us W HUL.out H64.out HM.out HC2.out (by omega) (Nat.le_refl _) ((HRU.out.fr0 f).more f.size)
  have Hfin := hide fin
  have fin2 : ∀ (wi : Int) (wv : Nat), wi = wv → wd ≤ wv → wv ≤ 64 → ∀ (V : World) (W : World) (v : Value), Fr No w W → Own W V.heap.size 5 1 v (bitsZ us wi).length (by8 (bitsZ us wi)) → ∃ B j d, v = .slice B j d ∧ Calls Try.prog 19 #[.slice B j d, .int .i64 wi, .int .i64 (m : Nat)] W (GivesUnb (us, 0) W) := by
    intro wi wv e0 e1 e2 V W v f hown
    subst e0
    obtain ⟨B, d, rfl, x1, x2, _⟩ := hown.form
    have h := unb_any B _ d W.heap.size wv (m : Nat) (bitsZ us wv) W rfl x1 x2 (Nat.le_refl _) hown.rd
    have e := back_unb (w := wv) H64.out (by rw [← HWD.out]; exact e1) e2 (by rw [HUL.out]; omega)
    rw [HUL.out] at e
    rw [e] at h
    exact ⟨_, _, _, rfl, h⟩
  have Hfin2 := hide fin2
  clear fin fin2
  by_cases hle : wd + g ≤ 64
  · have hle' : ¬ (64 : Int) < (wd : Int) + (g : Int) := by omega
    have HB := hide (Hfin.out ((wd : Int) + (g : Int)) (wd + g) (by simp) HX.out hle w6 F6.out)
    go_wp2_with (fail)
    refine HWi.out.mono ?_
    rintro en w7 ⟨rfl, rfl⟩
    go_wp2_with (fail)
    refine HB.out.mono ?_
    rintro en w8 ⟨v8, rfl, hown, hfr⟩
    have F8 : Hid (Fr No w w8) := hide (F6.out.tr hfr)
    obtain ⟨B8, j8, d8, rfl, hun⟩ := Hfin2.out ((wd : Int) + (g : Int)) (wd + g) (by simp) HX.out hle _ w8 v8 F8.out hown
    have HUn := hide hun
    clear hown hfr hun
    go_wp2_with (fail)
    refine HUn.out.mono ?_
    rintro en w9 ⟨v9, rfl, hown, hfr⟩
    have F9 : Hid (Fr No w w9) := hide (F8.out.tr hfr)
    rw [HUL.out] at hown
    obtain ⟨B9, d9, rfl, x1, x2, _⟩ := hown.form
    have HU9 := hide (u64_b B9 A2 m d9 m c2 us us w9 HUL.out HUL.out x1 x2 HM.out HC2.out hown.rd ((HRU.out.fr0 F9.out).more F9.out.size))
    clear hown hfr x1 x2 HUn
    go_wp2_with (fail)
    refine HU9.out.mono ?_
    rintro en w10 ⟨rfl, hfr⟩
    have F10 := hide (F9.out.tr hfr)
    clear hfr
    go_wp2
    go_ret
    exact ⟨by simp, F10.out⟩
  · have hle' : (64 : Int) < (wd : Int) + (g : Int) := by omega
    have HB := hide (Hfin.out 64 64 rfl hwd2 (Nat.le_refl _) w6 F6.out)
    go_wp2_with (fail)
    refine HWi.out.mono ?_
    rintro en w7 ⟨rfl, rfl⟩
    go_wp2_with (fail)
    refine HB.out.mono ?_
    rintro en w8 ⟨v8, rfl, hown, hfr⟩
    have F8 : Hid (Fr No w w8) := hide (F6.out.tr hfr)
    obtain ⟨B8, j8, d8, rfl, hun⟩ := Hfin2.out 64 64 rfl hwd2 (Nat.le_refl _) _ w8 v8 F8.out hown
    have HUn := hide hun
    clear hown hfr hun
    go_wp2_with (fail)
    refine HUn.out.mono ?_
    rintro en w9 ⟨v9, rfl, hown, hfr⟩
    have F9 : Hid (Fr No w w9) := hide (F8.out.tr hfr)
    rw [HUL.out] at hown
    obtain ⟨B9, d9, rfl, x1, x2, _⟩ := hown.form
    have HU9 := hide (u64_b B9 A2 m d9 m c2 us us w9 HUL.out HUL.out x1 x2 HM.out HC2.out hown.rd ((HRU.out.fr0 F9.out).more F9.out.size))
    clear hown hfr x1 x2 HUn
    go_wp2_with (fail)
    refine HU9.out.mono ?_
    rintro en w10 ⟨rfl, hfr⟩
    have F10 := hide (F9.out.tr hfr)
    clear hfr
    go_wp2
    go_ret
    exact ⟨by simp, F10.out⟩
end Go.Proofs.Ytpnhnnhocekchaa
