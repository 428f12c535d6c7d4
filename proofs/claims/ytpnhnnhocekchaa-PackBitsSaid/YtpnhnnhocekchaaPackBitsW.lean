/- The walk of PackBits: it answers true; nothing that was there has changed. No condition. -/
import Derived.Test.YtpnhnnhocekchaaAwake03
import Derived.Test.YtpnhnnhocekchaaRefGet03
import Derived.Test.YtpnhnnhocekchaaRefU03
import Derived.Test.YtpnhnnhocekchaaLent8
import Derived.Test.YtpnhnnhocekchaaApart2N
namespace Go.Proofs.Ytpnhnnhocekchaa
set_option linter.unusedVariables false
set_option linter.unusedSimpArgs false
open Go.RowKit

set_option maxRecDepth 100000 in
set_option maxHeartbeats 4000000 in
theorem packbits_any (A : Option Addr) (n c : Nat) (wi : Int) (A2 : Option Addr) (m c2 : Nat) (ni : Int) (l : List Nat) (b : List UInt8) (w : World) (hl : l.length = n) (hi : In64 l) (hn : n ≤ c) (hc : c ≤ maxLen) (hr : Rd w w.heap.size A (nz l)) (hbl : b.length = m) (hm : m ≤ c2) (hc2 : c2 ≤ maxLen) (hm2 : m ≤ 140737488351232) (hrb : Rd w w.heap.size A2 (by8 b)) :
    Calls Try.prog 3 #[.slice A n c, .int .i64 wi, .slice A2 m c2, .int .i64 ni] w (RetB true w) := by
  have HAw := hide awake03_any
  have HC := hide hc
  have HC2 := hide hc2
  by_cases hg : 2000 < n ∨ (2000 < ni ∧ ni ≤ 1048576)
  · by_cases h1 : 2000 < n
    · have h1' : (2000 : Int) < (n : Int) := by omega
      clear hg hl hi hn hc hr hbl hm hc2 hm2 hrb
      go_enter Try.func3, Try.ntmps3
      go_wp2_with (fail)
      refine (HAw.out _).mono ?_
      rintro en w1 ⟨rfl, hfr⟩
      have HF := hide hfr
      clear hfr
      go_wp2
      go_ret
      exact ⟨rfl, HF.out⟩
    · have h2 : 2000 < ni ∧ ni ≤ 1048576 := by omega
      obtain ⟨h3, h4⟩ := h2
      have h1' : ¬ (2000 : Int) < (n : Int) := by omega
      clear hg hl hi hn hc hr hbl hm hc2 hm2 hrb
      go_enter Try.func3, Try.ntmps3
      go_wp2_with (fail)
      refine (HAw.out _).mono ?_
      rintro en w1 ⟨rfl, hfr⟩
      have HF := hide hfr
      clear hfr
      go_wp2
      go_ret
      exact ⟨rfl, HF.out⟩
  · have hn2 : n ≤ 2000 := by omega
    have hni : 2000 < ni → 1048576 < ni := by omega
    have hgd : ¬ (2000 < ni ∧ ni ≤ 1048576) := by omega
    have HL := hide hl
    have HI := hide hi
    have HR := hide hr
    have HBL := hide hbl
    have HRB := hide hrb
    have HNI := hide hni
    clear hg hl hi hr hbl hrb hc hc2 hni
    suffices key : ∀ (b1 : Bool), decide (2000 < ni) = b1 → (b1 = true → decide (ni ≤ 1048576) = false) → Calls Try.prog 3 #[.slice A n c, .int .i64 wi, .slice A2 m c2, .int .i64 ni] w (RetB true w) by
      refine key _ rfl (fun h => ?_)
      have := of_decide_eq_true h
      exact decide_eq_false (by omega)
    intro b1 hb1 hb2
    have hn3 : ¬ (2000 : Int) < (n : Int) := by omega
    go_enter Try.func3, Try.ntmps3
    cases b1 with
    | false =>
      go_wp2_with (fail)
      refine (lentU64_any A n c _ (zN l) w (by rw [zN_len]; exact HL.out) (by omega) HR.out).mono ?_
      rintro en w1 ⟨B1, d1, rfl, hown, hfr⟩
      have HR := hide ((HR.out.fr0 hfr).more hfr.size)
      have HRB := hide ((HRB.out.fr0 hfr).more hfr.size)
      have FF : Hid (Fr No w w1) := hide hfr
      rw [zN_len, HL.out] at hown
      obtain ⟨_, e1, e2⟩ := hown.le
      have OI := hide hown
      have RI := hide (show Rd w1 w1.heap.size B1 (nz l) by have h := hown.rd.tk n; rw [show iz .u64 (zN l ++ [7171]) = nz l ++ [.int .u64 7171] by simp [nz, iz], List.take_append_of_le_length (by rw [nz_len, HL.out]; exact Nat.le_refl _), List.take_of_length_le (by rw [nz_len, HL.out]; exact Nat.le_refl _)] at h; exact h)
      have E2 := hide e2
      clear hown e2
      clear hfr
      rw [zN_len, HL.out]
      go_wp2_with (fail)
      refine (lent8_any A2 m c2 _ b w1 HBL.out (by omega) HRB.out).mono ?_
      rintro en w2 ⟨B2, d2, rfl, hown, hfr⟩
      have HR := hide ((HR.out.fr0 hfr).more hfr.size)
      have HRB := hide ((HRB.out.fr0 hfr).more hfr.size)
      have OI := hide (OI.out.fr0 hfr)
      have RI := hide ((RI.out.fr0 hfr).more hfr.size)
      have FP := FF
      have FF : Hid (Fr No w w2) := hide (FF.out.tr hfr)
      rw [HBL.out] at hown
      obtain ⟨_, f1, f2⟩ := hown.le
      have OD := hide hown
      have RD2 := hide (show Rd w2 w2.heap.size B2 (by8 b) by have h := hown.rd.tk m; rw [← by8_take, List.take_append_of_le_length (by rw [HBL.out]; exact Nat.le_refl _), List.take_of_length_le (by rw [HBL.out]; exact Nat.le_refl _)] at h; exact h)
      have E4 := hide f2
      clear hown f2
      clear hfr
      rw [HBL.out]
      obtain ⟨d1n, d1m, d2n, d2m⟩ : n ≤ d1 ∧ d1 ≤ 9223372036854775807 ∧ m ≤ d2 ∧ d2 ≤ 9223372036854775807 := by have := E2.out; have := E4.out; unfold maxLen at *; omega
      obtain ⟨xb, hxb⟩ : ∃ x, x = bitsZ l wi := ⟨_, rfl⟩
      have hxl : xb.length ≤ 16001 := by
        rw [hxb]
        unfold bitsZ
        split
        · rw [packed_len, HL.out]; have := psz_le (w := wi.toNat) (n := n) (by omega); omega
        · simp
      have HXB := hide hxb.symm
      clear hxb
      obtain ⟨xn, hxn⟩ : ∃ x, x = xb.length := ⟨_, rfl⟩
      rw [← hxn] at hxl
      have HXN := hide hxn.symm
      clear hxn
      go_wp2_with (fail)
      refine (show Calls Try.prog 17 #[.slice B1 n d1, .int .i64 wi] w2 (GivesB w2 xb) from HXB.out ▸ bits_any B1 n d1 _ wi l w2 HL.out HI.out d1n (by unfold maxLen; omega) (by omega) (Nat.le_refl _) RI.out).mono ?_
      rintro en w3 ⟨v0, rfl, hown, hfr⟩
      have HR := hide ((HR.out.fr0 hfr).more hfr.size)
      have HRB := hide ((HRB.out.fr0 hfr).more hfr.size)
      have OI := hide (OI.out.fr0 hfr)
      have RI := hide ((RI.out.fr0 hfr).more hfr.size)
      have OD := hide (OD.out.fr0 hfr)
      have RD2 := hide ((RD2.out.fr0 hfr).more hfr.size)
      have FP := FF
      have FF : Hid (Fr No w w3) := hide (FF.out.tr hfr)
      rw [HXN.out] at hown
      obtain ⟨X1, k1, rfl, x1a, x1b, _⟩ := hown.form
      have BX : Hid (∀ k, (Value.slice X1 xn k1).ownBlock = some k → w.heap.size ≤ k) := hide (fun k hk => by have h1 := (hown.lt k hk).1; have h2 := FP.out.size; omega); have OX := hide (hown.lower (Nat.zero_le _))
      have x1c := hide x1b
      unfold maxLen at x1b
      clear hown
      clear hfr
      have ZX := OX
      go_wp2_with (fail)
      refine (show Calls Try.prog 17 #[.slice B1 n d1, .int .i64 wi] w3 (GivesB w3 xb) from HXB.out ▸ bits_any B1 n d1 _ wi l w3 HL.out HI.out d1n (by unfold maxLen; omega) (by omega) (Nat.le_refl _) RI.out).mono ?_
      rintro en w4 ⟨v1, rfl, hown, hfr⟩
      have HR := hide ((HR.out.fr0 hfr).more hfr.size)
      have HRB := hide ((HRB.out.fr0 hfr).more hfr.size)
      have OI := hide (OI.out.fr0 hfr)
      have RI := hide ((RI.out.fr0 hfr).more hfr.size)
      have OD := hide (OD.out.fr0 hfr)
      have RD2 := hide ((RD2.out.fr0 hfr).more hfr.size)
      have OX := hide (OX.out.fr0 hfr)
      have FP := FF
      have FF : Hid (Fr No w w4) := hide (FF.out.tr hfr)
      rw [HXN.out] at hown
      obtain ⟨X2, k2, rfl, x2a, x2b, _⟩ := hown.form
      have DXY : Hid (∀ k, (Value.slice X1 xn k1).ownBlock = some k → (Value.slice X2 xn k2).ownBlock ≠ some k) := hide (fun k h e => by have h1 := (ZX.out.lt k h).2; have h2 := (hown.lt k e).1; omega)
      have BY : Hid (∀ k, (Value.slice X2 xn k2).ownBlock = some k → w.heap.size ≤ k) := hide (fun k hk => by have h1 := (hown.lt k hk).1; have h2 := FP.out.size; omega); have OY := hide (hown.lower (Nat.zero_le _))
      have x2c := hide x2b
      unfold maxLen at x2b
      clear hown
      clear hfr
      go_wp2_with (fail)
      refine (show Calls Try.prog 18 #[.slice A n c, .int .i64 wi] w4 (GivesB w4 xb) from HXB.out ▸ refBits_any A n c _ wi l w4 HL.out HI.out hn HC.out (by omega) (Nat.le_refl _) HR.out).mono ?_
      rintro en w5 ⟨v3, rfl, hown, hfr⟩
      have HR := hide ((HR.out.fr0 hfr).more hfr.size)
      have HRB := hide ((HRB.out.fr0 hfr).more hfr.size)
      have OI := hide (OI.out.fr0 hfr)
      have RI := hide ((RI.out.fr0 hfr).more hfr.size)
      have OD := hide (OD.out.fr0 hfr)
      have RD2 := hide ((RD2.out.fr0 hfr).more hfr.size)
      have OX := hide (OX.out.fr0 hfr)
      have OY := hide (OY.out.fr0 hfr)
      have FP := FF
      have FF : Hid (Fr No w w5) := hide (FF.out.tr hfr)
      rw [HXN.out] at hown
      obtain ⟨X3, k3, rfl, x3a, x3b, _⟩ := hown.form
      have OW := hide (hown.lower (Nat.zero_le _))
      have x3c := hide x3b
      unfold maxLen at x3b
      clear hown
      clear hfr
      obtain ⟨ub, ue, hub⟩ : ∃ ub ue, unbitsZ b wi ni = (ub, ue) := ⟨_, _, rfl⟩
      have hul : ub.length ≤ 2000 := by
        have h : ub = (unbitsZ b wi ni).1 := by rw [hub]
        rw [h]
        unfold unbitsZ
        split
        · simp
        · split
          · simp
          · rw [unpacked_len]; have := HNI.out; omega
      have HUB := hide hub
      clear hub
      obtain ⟨un, hun⟩ : ∃ x, x = ub.length := ⟨_, rfl⟩
      rw [← hun] at hul
      have HUN := hide hun.symm
      clear hun
      go_wp2_with (fail)
      refine (show Calls Try.prog 19 #[.slice B2 m d2, .int .i64 wi, .int .i64 ni] w5 (GivesUnb (ub, ue) w5) from HUB.out ▸ unb_any B2 m d2 _ wi ni b w5 HBL.out d2n (by unfold maxLen; omega) (Nat.le_refl _) RD2.out).mono ?_
      rintro en w6 ⟨u0, rfl, hown, hfr⟩
      have HR := hide ((HR.out.fr0 hfr).more hfr.size)
      have HRB := hide ((HRB.out.fr0 hfr).more hfr.size)
      have OI := hide (OI.out.fr0 hfr)
      have RI := hide ((RI.out.fr0 hfr).more hfr.size)
      have OD := hide (OD.out.fr0 hfr)
      have RD2 := hide ((RD2.out.fr0 hfr).more hfr.size)
      have OX := hide (OX.out.fr0 hfr)
      have OY := hide (OY.out.fr0 hfr)
      have OW := hide (OW.out.fr0 hfr)
      have FP := FF
      have FF : Hid (Fr No w w6) := hide (FF.out.tr hfr)
      dsimp only at hown
      rw [HUN.out] at hown
      obtain ⟨U1, j1, rfl, u1a, u1b, _⟩ := hown.form
      have BU : Hid (∀ k, (Value.slice U1 un j1).ownBlock = some k → w.heap.size ≤ k) := hide (fun k hk => by have h1 := (hown.lt k hk).1; have h2 := FP.out.size; omega); have OU := hide (hown.lower (Nat.zero_le _))
      have u1c := hide u1b
      unfold maxLen at u1b
      clear hown
      clear hfr
      have ZU := OU
      go_wp2_with (fail)
      refine (show Calls Try.prog 19 #[.slice B2 m d2, .int .i64 wi, .int .i64 ni] w6 (GivesUnb (ub, ue) w6) from HUB.out ▸ unb_any B2 m d2 _ wi ni b w6 HBL.out d2n (by unfold maxLen; omega) (Nat.le_refl _) RD2.out).mono ?_
      rintro en w7 ⟨u1, rfl, hown, hfr⟩
      have HR := hide ((HR.out.fr0 hfr).more hfr.size)
      have HRB := hide ((HRB.out.fr0 hfr).more hfr.size)
      have OI := hide (OI.out.fr0 hfr)
      have RI := hide ((RI.out.fr0 hfr).more hfr.size)
      have OD := hide (OD.out.fr0 hfr)
      have RD2 := hide ((RD2.out.fr0 hfr).more hfr.size)
      have OX := hide (OX.out.fr0 hfr)
      have OY := hide (OY.out.fr0 hfr)
      have OW := hide (OW.out.fr0 hfr)
      have OU := hide (OU.out.fr0 hfr)
      have FP := FF
      have FF : Hid (Fr No w w7) := hide (FF.out.tr hfr)
      dsimp only at hown
      rw [HUN.out] at hown
      obtain ⟨U2, j2, rfl, u2a, u2b, _⟩ := hown.form
      have DUV : Hid (∀ k, (Value.slice U1 un j1).ownBlock = some k → (Value.slice U2 un j2).ownBlock ≠ some k) := hide (fun k h e => by have h1 := (ZU.out.lt k h).2; have h2 := (hown.lt k e).1; omega)
      have BV : Hid (∀ k, (Value.slice U2 un j2).ownBlock = some k → w.heap.size ≤ k) := hide (fun k hk => by have h1 := (hown.lt k hk).1; have h2 := FP.out.size; omega); have OV := hide (hown.lower (Nat.zero_le _))
      have u2c := hide u2b
      unfold maxLen at u2b
      clear hown
      clear hfr
      go_wp2_with (fail)
      refine (show Calls Try.prog 20 #[.slice A2 m c2, .int .i64 wi, .int .i64 ni] w7 (GivesUnb (ub, ue) w7) from HUB.out ▸ refUnb_any A2 m c2 _ wi ni b w7 HBL.out hm HC2.out (Nat.le_refl _) HRB.out).mono ?_
      rintro en w8 ⟨u3, rfl, hown, hfr⟩
      have HR := hide ((HR.out.fr0 hfr).more hfr.size)
      have HRB := hide ((HRB.out.fr0 hfr).more hfr.size)
      have OI := hide (OI.out.fr0 hfr)
      have RI := hide ((RI.out.fr0 hfr).more hfr.size)
      have OD := hide (OD.out.fr0 hfr)
      have RD2 := hide ((RD2.out.fr0 hfr).more hfr.size)
      have OX := hide (OX.out.fr0 hfr)
      have OY := hide (OY.out.fr0 hfr)
      have OW := hide (OW.out.fr0 hfr)
      have OU := hide (OU.out.fr0 hfr)
      have OV := hide (OV.out.fr0 hfr)
      have FP := FF
      have FF : Hid (Fr No w w8) := hide (FF.out.tr hfr)
      dsimp only at hown
      rw [HUN.out] at hown
      obtain ⟨U3, j3, rfl, u3a, u3b, _⟩ := hown.form
      have OZ := hide (hown.lower (Nat.zero_le _))
      have u3c := hide u3b
      unfold maxLen at u3b
      clear hown
      clear hfr
      obtain ⟨wl, hwl⟩ : ∃ x, x = wid l := ⟨_, rfl⟩
      have HWL := hide hwl.symm
      clear hwl
      go_wp2_with (fail)
      refine (show Calls Try.prog 21 #[.slice B1 n d1] w8 (Ret (.int .i64 (wl : Nat)) w8) from HWL.out ▸ width_any B1 n d1 _ l w8 HL.out HI.out d1n (by unfold maxLen; omega) RI.out).mono ?_
      rintro en w9 ⟨rfl, rfl⟩
      go_wp2_with (fail)
      refine (show Calls Try.prog 22 #[.slice A n c] w8 (Ret (.int .i64 (wl : Nat)) w8) from HWL.out ▸ refWidth_any A n c _ l w8 HL.out HI.out hn HC.out HR.out).mono ?_
      rintro en w10 ⟨rfl, rfl⟩
      have hww : ((wl : Int) == (wl : Int)) = true := by simp
      have hue : (ue == ue) = true := by simp
      go_wp2_with (fail)
      refine (show Calls Try.prog 23 #[.slice X1 xn k1, .slice X3 xn k3] w8 (RetB true w8) from decide_eq_true (rfl : xb = xb) ▸ bytes_b X1 X3 xn k1 xn k3 xb xb w8 HXN.out HXN.out x1a x1c.out x3a x3c.out OX.out.rd OW.out.rd).mono ?_
      rintro en w11 ⟨rfl, hfr⟩
      have HR := hide ((HR.out.fr0 hfr).more hfr.size)
      have HRB := hide ((HRB.out.fr0 hfr).more hfr.size)
      have OI := hide (OI.out.fr0 hfr)
      have RI := hide ((RI.out.fr0 hfr).more hfr.size)
      have OD := hide (OD.out.fr0 hfr)
      have RD2 := hide ((RD2.out.fr0 hfr).more hfr.size)
      have OX := hide (OX.out.fr0 hfr)
      have OY := hide (OY.out.fr0 hfr)
      have OW := hide (OW.out.fr0 hfr)
      have OU := hide (OU.out.fr0 hfr)
      have OV := hide (OV.out.fr0 hfr)
      have OZ := hide (OZ.out.fr0 hfr)
      have FP := FF
      have FF : Hid (Fr No w w11) := hide (FF.out.tr hfr)
      clear hfr
      go_wp2_with (fail)
      refine (show Calls Try.prog 23 #[.slice X2 xn k2, .slice X3 xn k3] w11 (RetB true w11) from decide_eq_true (rfl : xb = xb) ▸ bytes_b X2 X3 xn k2 xn k3 xb xb w11 HXN.out HXN.out x2a x2c.out x3a x3c.out OY.out.rd OW.out.rd).mono ?_
      rintro en w12 ⟨rfl, hfr⟩
      have HR := hide ((HR.out.fr0 hfr).more hfr.size)
      have HRB := hide ((HRB.out.fr0 hfr).more hfr.size)
      have OI := hide (OI.out.fr0 hfr)
      have RI := hide ((RI.out.fr0 hfr).more hfr.size)
      have OD := hide (OD.out.fr0 hfr)
      have RD2 := hide ((RD2.out.fr0 hfr).more hfr.size)
      have OX := hide (OX.out.fr0 hfr)
      have OY := hide (OY.out.fr0 hfr)
      have OW := hide (OW.out.fr0 hfr)
      have OU := hide (OU.out.fr0 hfr)
      have OV := hide (OV.out.fr0 hfr)
      have OZ := hide (OZ.out.fr0 hfr)
      have FP := FF
      have FF : Hid (Fr No w w12) := hide (FF.out.tr hfr)
      clear hfr
      go_wp2_with (fail)
      refine (show Calls Try.prog 24 #[.slice U1 un j1, .slice U3 un j3] w12 (RetB true w12) from decide_eq_true (rfl : ub = ub) ▸ u64_b U1 U3 un j1 un j3 ub ub w12 HUN.out HUN.out u1a u1c.out u3a u3c.out OU.out.rd OZ.out.rd).mono ?_
      rintro en w13 ⟨rfl, hfr⟩
      have HR := hide ((HR.out.fr0 hfr).more hfr.size)
      have HRB := hide ((HRB.out.fr0 hfr).more hfr.size)
      have OI := hide (OI.out.fr0 hfr)
      have RI := hide ((RI.out.fr0 hfr).more hfr.size)
      have OD := hide (OD.out.fr0 hfr)
      have RD2 := hide ((RD2.out.fr0 hfr).more hfr.size)
      have OX := hide (OX.out.fr0 hfr)
      have OY := hide (OY.out.fr0 hfr)
      have OW := hide (OW.out.fr0 hfr)
      have OU := hide (OU.out.fr0 hfr)
      have OV := hide (OV.out.fr0 hfr)
      have OZ := hide (OZ.out.fr0 hfr)
      have FP := FF
      have FF : Hid (Fr No w w13) := hide (FF.out.tr hfr)
      clear hfr
      go_wp2_with (fail)
      refine (show Calls Try.prog 24 #[.slice U2 un j2, .slice U3 un j3] w13 (RetB true w13) from decide_eq_true (rfl : ub = ub) ▸ u64_b U2 U3 un j2 un j3 ub ub w13 HUN.out HUN.out u2a u2c.out u3a u3c.out OV.out.rd OZ.out.rd).mono ?_
      rintro en w14 ⟨rfl, hfr⟩
      have HR := hide ((HR.out.fr0 hfr).more hfr.size)
      have HRB := hide ((HRB.out.fr0 hfr).more hfr.size)
      have OI := hide (OI.out.fr0 hfr)
      have RI := hide ((RI.out.fr0 hfr).more hfr.size)
      have OD := hide (OD.out.fr0 hfr)
      have RD2 := hide ((RD2.out.fr0 hfr).more hfr.size)
      have OX := hide (OX.out.fr0 hfr)
      have OY := hide (OY.out.fr0 hfr)
      have OW := hide (OW.out.fr0 hfr)
      have OU := hide (OU.out.fr0 hfr)
      have OV := hide (OV.out.fr0 hfr)
      have OZ := hide (OZ.out.fr0 hfr)
      have FP := FF
      have FF : Hid (Fr No w w14) := hide (FF.out.tr hfr)
      clear hfr
      go_wp2_with (fail)
      refine (retB_q (keptU64_any B1 A n d1 n c _ _ (zN l) w14 (by rw [zN_len]; exact HL.out) (by rw [zN_len]; exact HL.out) (by have := E2.out; omega) (by unfold maxLen; omega) hn HC.out OI.out.rd HR.out)).mono ?_
      rintro en w15 ⟨rfl, hfr⟩
      have HR := hide ((HR.out.fr0 hfr).more hfr.size)
      have HRB := hide ((HRB.out.fr0 hfr).more hfr.size)
      have OI := hide (OI.out.fr0 hfr)
      have RI := hide ((RI.out.fr0 hfr).more hfr.size)
      have OD := hide (OD.out.fr0 hfr)
      have RD2 := hide ((RD2.out.fr0 hfr).more hfr.size)
      have OX := hide (OX.out.fr0 hfr)
      have OY := hide (OY.out.fr0 hfr)
      have OW := hide (OW.out.fr0 hfr)
      have OU := hide (OU.out.fr0 hfr)
      have OV := hide (OV.out.fr0 hfr)
      have OZ := hide (OZ.out.fr0 hfr)
      have FP := FF
      have FF : Hid (Fr No w w15) := hide (FF.out.tr hfr)
      clear hfr
      go_wp2_with (fail)
      refine (retB_q (kept8_any B2 A2 m d2 m c2 _ _ b w15 HBL.out HBL.out (by omega) (by unfold maxLen; omega) hm HC2.out OD.out.rd HRB.out)).mono ?_
      rintro en w16 ⟨rfl, hfr⟩
      have HR := hide ((HR.out.fr0 hfr).more hfr.size)
      have HRB := hide ((HRB.out.fr0 hfr).more hfr.size)
      have OI := hide (OI.out.fr0 hfr)
      have RI := hide ((RI.out.fr0 hfr).more hfr.size)
      have OD := hide (OD.out.fr0 hfr)
      have RD2 := hide ((RD2.out.fr0 hfr).more hfr.size)
      have OX := hide (OX.out.fr0 hfr)
      have OY := hide (OY.out.fr0 hfr)
      have OW := hide (OW.out.fr0 hfr)
      have OU := hide (OU.out.fr0 hfr)
      have OV := hide (OV.out.fr0 hfr)
      have OZ := hide (OZ.out.fr0 hfr)
      have FP := FF
      have FF : Hid (Fr No w w16) := hide (FF.out.tr hfr)
      clear hfr
      go_wp2_with (fail)
      refine (apart8_two w16.heap.size X1 X2 xn xn k1 k2 (by8 xb) (by8 xb) (w16.alloc (.cells #[.slice X1 xn k1, .slice X2 xn k2] 23)) (by omega) (by omega) (heap_alloc_new w16 _) (OX.out.fr0 ((Fr.refl No _).alloc _)) (OY.out.fr0 ((Fr.refl No _).alloc _)) DXY.out).mono ?_
      rintro en w17 ⟨rfl, hfr⟩
      have FF : Hid (Fr No w w17) := hide ((FF.out.alloc (.cells #[.slice X1 xn k1, .slice X2 xn k2] 23)).trans hfr (fun i hi e => by rcases e with e | e; (have := BX.out i e; omega); (have := BY.out i e; omega)))
      have OU := hide ((OU.out.fr0 ((Fr.refl No _).alloc (.cells #[.slice X1 xn k1, .slice X2 xn k2] 23))).fr hfr (fun k hk e => by rcases e with e | e; exact OU.out.apart OX.out (by decide) k hk e; exact OU.out.apart OY.out (by decide) k hk e))
      have OV := hide ((OV.out.fr0 ((Fr.refl No _).alloc (.cells #[.slice X1 xn k1, .slice X2 xn k2] 23))).fr hfr (fun k hk e => by rcases e with e | e; exact OV.out.apart OX.out (by decide) k hk e; exact OV.out.apart OY.out (by decide) k hk e))
      clear hfr
      go_wp2_with (fail)
      refine (apartU64_two w17.heap.size U1 U2 un un j1 j2 _ _ (w17.alloc (.cells #[.slice U1 un j1, .slice U2 un j2] 22)) (by omega) (by omega) (heap_alloc_new w17 _) (OU.out.fr0 ((Fr.refl No _).alloc _)) (OV.out.fr0 ((Fr.refl No _).alloc _)) DUV.out).mono ?_
      rintro en w18 ⟨rfl, hfr⟩
      have FF : Hid (Fr No w w18) := hide ((FF.out.alloc (.cells #[.slice U1 un j1, .slice U2 un j2] 22)).trans hfr (fun i hi e => by rcases e with e | e; (have := BU.out i e; omega); (have := BV.out i e; omega)))
      clear hfr
      go_wp2_with (fail)
      refine (HAw.out w18).mono ?_
      rintro en w19 ⟨rfl, hfr⟩
      have FP := FF
      have FF : Hid (Fr No w w19) := hide (FF.out.tr hfr)
      clear hfr
      go_wp2
      go_ret
      exact ⟨rfl, FF.out⟩
    | true =>
      have hb3 := hb2 rfl
      go_wp2_with (fail)
      refine (lentU64_any A n c _ (zN l) w (by rw [zN_len]; exact HL.out) (by omega) HR.out).mono ?_
      rintro en w1 ⟨B1, d1, rfl, hown, hfr⟩
      have HR := hide ((HR.out.fr0 hfr).more hfr.size)
      have HRB := hide ((HRB.out.fr0 hfr).more hfr.size)
      have FF : Hid (Fr No w w1) := hide hfr
      rw [zN_len, HL.out] at hown
      obtain ⟨_, e1, e2⟩ := hown.le
      have OI := hide hown
      have RI := hide (show Rd w1 w1.heap.size B1 (nz l) by have h := hown.rd.tk n; rw [show iz .u64 (zN l ++ [7171]) = nz l ++ [.int .u64 7171] by simp [nz, iz], List.take_append_of_le_length (by rw [nz_len, HL.out]; exact Nat.le_refl _), List.take_of_length_le (by rw [nz_len, HL.out]; exact Nat.le_refl _)] at h; exact h)
      have E2 := hide e2
      clear hown e2
      clear hfr
      rw [zN_len, HL.out]
      go_wp2_with (fail)
      refine (lent8_any A2 m c2 _ b w1 HBL.out (by omega) HRB.out).mono ?_
      rintro en w2 ⟨B2, d2, rfl, hown, hfr⟩
      have HR := hide ((HR.out.fr0 hfr).more hfr.size)
      have HRB := hide ((HRB.out.fr0 hfr).more hfr.size)
      have OI := hide (OI.out.fr0 hfr)
      have RI := hide ((RI.out.fr0 hfr).more hfr.size)
      have FP := FF
      have FF : Hid (Fr No w w2) := hide (FF.out.tr hfr)
      rw [HBL.out] at hown
      obtain ⟨_, f1, f2⟩ := hown.le
      have OD := hide hown
      have RD2 := hide (show Rd w2 w2.heap.size B2 (by8 b) by have h := hown.rd.tk m; rw [← by8_take, List.take_append_of_le_length (by rw [HBL.out]; exact Nat.le_refl _), List.take_of_length_le (by rw [HBL.out]; exact Nat.le_refl _)] at h; exact h)
      have E4 := hide f2
      clear hown f2
      clear hfr
      rw [HBL.out]
      obtain ⟨d1n, d1m, d2n, d2m⟩ : n ≤ d1 ∧ d1 ≤ 9223372036854775807 ∧ m ≤ d2 ∧ d2 ≤ 9223372036854775807 := by have := E2.out; have := E4.out; unfold maxLen at *; omega
      obtain ⟨xb, hxb⟩ : ∃ x, x = bitsZ l wi := ⟨_, rfl⟩
      have hxl : xb.length ≤ 16001 := by
        rw [hxb]
        unfold bitsZ
        split
        · rw [packed_len, HL.out]; have := psz_le (w := wi.toNat) (n := n) (by omega); omega
        · simp
      have HXB := hide hxb.symm
      clear hxb
      obtain ⟨xn, hxn⟩ : ∃ x, x = xb.length := ⟨_, rfl⟩
      rw [← hxn] at hxl
      have HXN := hide hxn.symm
      clear hxn
      go_wp2_with (fail)
      refine (show Calls Try.prog 17 #[.slice B1 n d1, .int .i64 wi] w2 (GivesB w2 xb) from HXB.out ▸ bits_any B1 n d1 _ wi l w2 HL.out HI.out d1n (by unfold maxLen; omega) (by omega) (Nat.le_refl _) RI.out).mono ?_
      rintro en w3 ⟨v0, rfl, hown, hfr⟩
      have HR := hide ((HR.out.fr0 hfr).more hfr.size)
      have HRB := hide ((HRB.out.fr0 hfr).more hfr.size)
      have OI := hide (OI.out.fr0 hfr)
      have RI := hide ((RI.out.fr0 hfr).more hfr.size)
      have OD := hide (OD.out.fr0 hfr)
      have RD2 := hide ((RD2.out.fr0 hfr).more hfr.size)
      have FP := FF
      have FF : Hid (Fr No w w3) := hide (FF.out.tr hfr)
      rw [HXN.out] at hown
      obtain ⟨X1, k1, rfl, x1a, x1b, _⟩ := hown.form
      have BX : Hid (∀ k, (Value.slice X1 xn k1).ownBlock = some k → w.heap.size ≤ k) := hide (fun k hk => by have h1 := (hown.lt k hk).1; have h2 := FP.out.size; omega); have OX := hide (hown.lower (Nat.zero_le _))
      have x1c := hide x1b
      unfold maxLen at x1b
      clear hown
      clear hfr
      have ZX := OX
      go_wp2_with (fail)
      refine (show Calls Try.prog 17 #[.slice B1 n d1, .int .i64 wi] w3 (GivesB w3 xb) from HXB.out ▸ bits_any B1 n d1 _ wi l w3 HL.out HI.out d1n (by unfold maxLen; omega) (by omega) (Nat.le_refl _) RI.out).mono ?_
      rintro en w4 ⟨v1, rfl, hown, hfr⟩
      have HR := hide ((HR.out.fr0 hfr).more hfr.size)
      have HRB := hide ((HRB.out.fr0 hfr).more hfr.size)
      have OI := hide (OI.out.fr0 hfr)
      have RI := hide ((RI.out.fr0 hfr).more hfr.size)
      have OD := hide (OD.out.fr0 hfr)
      have RD2 := hide ((RD2.out.fr0 hfr).more hfr.size)
      have OX := hide (OX.out.fr0 hfr)
      have FP := FF
      have FF : Hid (Fr No w w4) := hide (FF.out.tr hfr)
      rw [HXN.out] at hown
      obtain ⟨X2, k2, rfl, x2a, x2b, _⟩ := hown.form
      have DXY : Hid (∀ k, (Value.slice X1 xn k1).ownBlock = some k → (Value.slice X2 xn k2).ownBlock ≠ some k) := hide (fun k h e => by have h1 := (ZX.out.lt k h).2; have h2 := (hown.lt k e).1; omega)
      have BY : Hid (∀ k, (Value.slice X2 xn k2).ownBlock = some k → w.heap.size ≤ k) := hide (fun k hk => by have h1 := (hown.lt k hk).1; have h2 := FP.out.size; omega); have OY := hide (hown.lower (Nat.zero_le _))
      have x2c := hide x2b
      unfold maxLen at x2b
      clear hown
      clear hfr
      go_wp2_with (fail)
      refine (show Calls Try.prog 18 #[.slice A n c, .int .i64 wi] w4 (GivesB w4 xb) from HXB.out ▸ refBits_any A n c _ wi l w4 HL.out HI.out hn HC.out (by omega) (Nat.le_refl _) HR.out).mono ?_
      rintro en w5 ⟨v3, rfl, hown, hfr⟩
      have HR := hide ((HR.out.fr0 hfr).more hfr.size)
      have HRB := hide ((HRB.out.fr0 hfr).more hfr.size)
      have OI := hide (OI.out.fr0 hfr)
      have RI := hide ((RI.out.fr0 hfr).more hfr.size)
      have OD := hide (OD.out.fr0 hfr)
      have RD2 := hide ((RD2.out.fr0 hfr).more hfr.size)
      have OX := hide (OX.out.fr0 hfr)
      have OY := hide (OY.out.fr0 hfr)
      have FP := FF
      have FF : Hid (Fr No w w5) := hide (FF.out.tr hfr)
      rw [HXN.out] at hown
      obtain ⟨X3, k3, rfl, x3a, x3b, _⟩ := hown.form
      have OW := hide (hown.lower (Nat.zero_le _))
      have x3c := hide x3b
      unfold maxLen at x3b
      clear hown
      clear hfr
      obtain ⟨ub, ue, hub⟩ : ∃ ub ue, unbitsZ b wi ni = (ub, ue) := ⟨_, _, rfl⟩
      have hul : ub.length ≤ 2000 := by
        have h : ub = (unbitsZ b wi ni).1 := by rw [hub]
        rw [h]
        unfold unbitsZ
        split
        · simp
        · split
          · simp
          · rw [unpacked_len]; have := HNI.out; omega
      have HUB := hide hub
      clear hub
      obtain ⟨un, hun⟩ : ∃ x, x = ub.length := ⟨_, rfl⟩
      rw [← hun] at hul
      have HUN := hide hun.symm
      clear hun
      go_wp2_with (fail)
      refine (show Calls Try.prog 19 #[.slice B2 m d2, .int .i64 wi, .int .i64 ni] w5 (GivesUnb (ub, ue) w5) from HUB.out ▸ unb_any B2 m d2 _ wi ni b w5 HBL.out d2n (by unfold maxLen; omega) (Nat.le_refl _) RD2.out).mono ?_
      rintro en w6 ⟨u0, rfl, hown, hfr⟩
      have HR := hide ((HR.out.fr0 hfr).more hfr.size)
      have HRB := hide ((HRB.out.fr0 hfr).more hfr.size)
      have OI := hide (OI.out.fr0 hfr)
      have RI := hide ((RI.out.fr0 hfr).more hfr.size)
      have OD := hide (OD.out.fr0 hfr)
      have RD2 := hide ((RD2.out.fr0 hfr).more hfr.size)
      have OX := hide (OX.out.fr0 hfr)
      have OY := hide (OY.out.fr0 hfr)
      have OW := hide (OW.out.fr0 hfr)
      have FP := FF
      have FF : Hid (Fr No w w6) := hide (FF.out.tr hfr)
      dsimp only at hown
      rw [HUN.out] at hown
      obtain ⟨U1, j1, rfl, u1a, u1b, _⟩ := hown.form
      have BU : Hid (∀ k, (Value.slice U1 un j1).ownBlock = some k → w.heap.size ≤ k) := hide (fun k hk => by have h1 := (hown.lt k hk).1; have h2 := FP.out.size; omega); have OU := hide (hown.lower (Nat.zero_le _))
      have u1c := hide u1b
      unfold maxLen at u1b
      clear hown
      clear hfr
      have ZU := OU
      go_wp2_with (fail)
      refine (show Calls Try.prog 19 #[.slice B2 m d2, .int .i64 wi, .int .i64 ni] w6 (GivesUnb (ub, ue) w6) from HUB.out ▸ unb_any B2 m d2 _ wi ni b w6 HBL.out d2n (by unfold maxLen; omega) (Nat.le_refl _) RD2.out).mono ?_
      rintro en w7 ⟨u1, rfl, hown, hfr⟩
      have HR := hide ((HR.out.fr0 hfr).more hfr.size)
      have HRB := hide ((HRB.out.fr0 hfr).more hfr.size)
      have OI := hide (OI.out.fr0 hfr)
      have RI := hide ((RI.out.fr0 hfr).more hfr.size)
      have OD := hide (OD.out.fr0 hfr)
      have RD2 := hide ((RD2.out.fr0 hfr).more hfr.size)
      have OX := hide (OX.out.fr0 hfr)
      have OY := hide (OY.out.fr0 hfr)
      have OW := hide (OW.out.fr0 hfr)
      have OU := hide (OU.out.fr0 hfr)
      have FP := FF
      have FF : Hid (Fr No w w7) := hide (FF.out.tr hfr)
      dsimp only at hown
      rw [HUN.out] at hown
      obtain ⟨U2, j2, rfl, u2a, u2b, _⟩ := hown.form
      have DUV : Hid (∀ k, (Value.slice U1 un j1).ownBlock = some k → (Value.slice U2 un j2).ownBlock ≠ some k) := hide (fun k h e => by have h1 := (ZU.out.lt k h).2; have h2 := (hown.lt k e).1; omega)
      have BV : Hid (∀ k, (Value.slice U2 un j2).ownBlock = some k → w.heap.size ≤ k) := hide (fun k hk => by have h1 := (hown.lt k hk).1; have h2 := FP.out.size; omega); have OV := hide (hown.lower (Nat.zero_le _))
      have u2c := hide u2b
      unfold maxLen at u2b
      clear hown
      clear hfr
      go_wp2_with (fail)
      refine (show Calls Try.prog 20 #[.slice A2 m c2, .int .i64 wi, .int .i64 ni] w7 (GivesUnb (ub, ue) w7) from HUB.out ▸ refUnb_any A2 m c2 _ wi ni b w7 HBL.out hm HC2.out (Nat.le_refl _) HRB.out).mono ?_
      rintro en w8 ⟨u3, rfl, hown, hfr⟩
      have HR := hide ((HR.out.fr0 hfr).more hfr.size)
      have HRB := hide ((HRB.out.fr0 hfr).more hfr.size)
      have OI := hide (OI.out.fr0 hfr)
      have RI := hide ((RI.out.fr0 hfr).more hfr.size)
      have OD := hide (OD.out.fr0 hfr)
      have RD2 := hide ((RD2.out.fr0 hfr).more hfr.size)
      have OX := hide (OX.out.fr0 hfr)
      have OY := hide (OY.out.fr0 hfr)
      have OW := hide (OW.out.fr0 hfr)
      have OU := hide (OU.out.fr0 hfr)
      have OV := hide (OV.out.fr0 hfr)
      have FP := FF
      have FF : Hid (Fr No w w8) := hide (FF.out.tr hfr)
      dsimp only at hown
      rw [HUN.out] at hown
      obtain ⟨U3, j3, rfl, u3a, u3b, _⟩ := hown.form
      have OZ := hide (hown.lower (Nat.zero_le _))
      have u3c := hide u3b
      unfold maxLen at u3b
      clear hown
      clear hfr
      obtain ⟨wl, hwl⟩ : ∃ x, x = wid l := ⟨_, rfl⟩
      have HWL := hide hwl.symm
      clear hwl
      go_wp2_with (fail)
      refine (show Calls Try.prog 21 #[.slice B1 n d1] w8 (Ret (.int .i64 (wl : Nat)) w8) from HWL.out ▸ width_any B1 n d1 _ l w8 HL.out HI.out d1n (by unfold maxLen; omega) RI.out).mono ?_
      rintro en w9 ⟨rfl, rfl⟩
      go_wp2_with (fail)
      refine (show Calls Try.prog 22 #[.slice A n c] w8 (Ret (.int .i64 (wl : Nat)) w8) from HWL.out ▸ refWidth_any A n c _ l w8 HL.out HI.out hn HC.out HR.out).mono ?_
      rintro en w10 ⟨rfl, rfl⟩
      have hww : ((wl : Int) == (wl : Int)) = true := by simp
      have hue : (ue == ue) = true := by simp
      go_wp2_with (fail)
      refine (show Calls Try.prog 23 #[.slice X1 xn k1, .slice X3 xn k3] w8 (RetB true w8) from decide_eq_true (rfl : xb = xb) ▸ bytes_b X1 X3 xn k1 xn k3 xb xb w8 HXN.out HXN.out x1a x1c.out x3a x3c.out OX.out.rd OW.out.rd).mono ?_
      rintro en w11 ⟨rfl, hfr⟩
      have HR := hide ((HR.out.fr0 hfr).more hfr.size)
      have HRB := hide ((HRB.out.fr0 hfr).more hfr.size)
      have OI := hide (OI.out.fr0 hfr)
      have RI := hide ((RI.out.fr0 hfr).more hfr.size)
      have OD := hide (OD.out.fr0 hfr)
      have RD2 := hide ((RD2.out.fr0 hfr).more hfr.size)
      have OX := hide (OX.out.fr0 hfr)
      have OY := hide (OY.out.fr0 hfr)
      have OW := hide (OW.out.fr0 hfr)
      have OU := hide (OU.out.fr0 hfr)
      have OV := hide (OV.out.fr0 hfr)
      have OZ := hide (OZ.out.fr0 hfr)
      have FP := FF
      have FF : Hid (Fr No w w11) := hide (FF.out.tr hfr)
      clear hfr
      go_wp2_with (fail)
      refine (show Calls Try.prog 23 #[.slice X2 xn k2, .slice X3 xn k3] w11 (RetB true w11) from decide_eq_true (rfl : xb = xb) ▸ bytes_b X2 X3 xn k2 xn k3 xb xb w11 HXN.out HXN.out x2a x2c.out x3a x3c.out OY.out.rd OW.out.rd).mono ?_
      rintro en w12 ⟨rfl, hfr⟩
      have HR := hide ((HR.out.fr0 hfr).more hfr.size)
      have HRB := hide ((HRB.out.fr0 hfr).more hfr.size)
      have OI := hide (OI.out.fr0 hfr)
      have RI := hide ((RI.out.fr0 hfr).more hfr.size)
      have OD := hide (OD.out.fr0 hfr)
      have RD2 := hide ((RD2.out.fr0 hfr).more hfr.size)
      have OX := hide (OX.out.fr0 hfr)
      have OY := hide (OY.out.fr0 hfr)
      have OW := hide (OW.out.fr0 hfr)
      have OU := hide (OU.out.fr0 hfr)
      have OV := hide (OV.out.fr0 hfr)
      have OZ := hide (OZ.out.fr0 hfr)
      have FP := FF
      have FF : Hid (Fr No w w12) := hide (FF.out.tr hfr)
      clear hfr
      go_wp2_with (fail)
      refine (show Calls Try.prog 24 #[.slice U1 un j1, .slice U3 un j3] w12 (RetB true w12) from decide_eq_true (rfl : ub = ub) ▸ u64_b U1 U3 un j1 un j3 ub ub w12 HUN.out HUN.out u1a u1c.out u3a u3c.out OU.out.rd OZ.out.rd).mono ?_
      rintro en w13 ⟨rfl, hfr⟩
      have HR := hide ((HR.out.fr0 hfr).more hfr.size)
      have HRB := hide ((HRB.out.fr0 hfr).more hfr.size)
      have OI := hide (OI.out.fr0 hfr)
      have RI := hide ((RI.out.fr0 hfr).more hfr.size)
      have OD := hide (OD.out.fr0 hfr)
      have RD2 := hide ((RD2.out.fr0 hfr).more hfr.size)
      have OX := hide (OX.out.fr0 hfr)
      have OY := hide (OY.out.fr0 hfr)
      have OW := hide (OW.out.fr0 hfr)
      have OU := hide (OU.out.fr0 hfr)
      have OV := hide (OV.out.fr0 hfr)
      have OZ := hide (OZ.out.fr0 hfr)
      have FP := FF
      have FF : Hid (Fr No w w13) := hide (FF.out.tr hfr)
      clear hfr
      go_wp2_with (fail)
      refine (show Calls Try.prog 24 #[.slice U2 un j2, .slice U3 un j3] w13 (RetB true w13) from decide_eq_true (rfl : ub = ub) ▸ u64_b U2 U3 un j2 un j3 ub ub w13 HUN.out HUN.out u2a u2c.out u3a u3c.out OV.out.rd OZ.out.rd).mono ?_
      rintro en w14 ⟨rfl, hfr⟩
      have HR := hide ((HR.out.fr0 hfr).more hfr.size)
      have HRB := hide ((HRB.out.fr0 hfr).more hfr.size)
      have OI := hide (OI.out.fr0 hfr)
      have RI := hide ((RI.out.fr0 hfr).more hfr.size)
      have OD := hide (OD.out.fr0 hfr)
      have RD2 := hide ((RD2.out.fr0 hfr).more hfr.size)
      have OX := hide (OX.out.fr0 hfr)
      have OY := hide (OY.out.fr0 hfr)
      have OW := hide (OW.out.fr0 hfr)
      have OU := hide (OU.out.fr0 hfr)
      have OV := hide (OV.out.fr0 hfr)
      have OZ := hide (OZ.out.fr0 hfr)
      have FP := FF
      have FF : Hid (Fr No w w14) := hide (FF.out.tr hfr)
      clear hfr
      go_wp2_with (fail)
      refine (retB_q (keptU64_any B1 A n d1 n c _ _ (zN l) w14 (by rw [zN_len]; exact HL.out) (by rw [zN_len]; exact HL.out) (by have := E2.out; omega) (by unfold maxLen; omega) hn HC.out OI.out.rd HR.out)).mono ?_
      rintro en w15 ⟨rfl, hfr⟩
      have HR := hide ((HR.out.fr0 hfr).more hfr.size)
      have HRB := hide ((HRB.out.fr0 hfr).more hfr.size)
      have OI := hide (OI.out.fr0 hfr)
      have RI := hide ((RI.out.fr0 hfr).more hfr.size)
      have OD := hide (OD.out.fr0 hfr)
      have RD2 := hide ((RD2.out.fr0 hfr).more hfr.size)
      have OX := hide (OX.out.fr0 hfr)
      have OY := hide (OY.out.fr0 hfr)
      have OW := hide (OW.out.fr0 hfr)
      have OU := hide (OU.out.fr0 hfr)
      have OV := hide (OV.out.fr0 hfr)
      have OZ := hide (OZ.out.fr0 hfr)
      have FP := FF
      have FF : Hid (Fr No w w15) := hide (FF.out.tr hfr)
      clear hfr
      go_wp2_with (fail)
      refine (retB_q (kept8_any B2 A2 m d2 m c2 _ _ b w15 HBL.out HBL.out (by omega) (by unfold maxLen; omega) hm HC2.out OD.out.rd HRB.out)).mono ?_
      rintro en w16 ⟨rfl, hfr⟩
      have HR := hide ((HR.out.fr0 hfr).more hfr.size)
      have HRB := hide ((HRB.out.fr0 hfr).more hfr.size)
      have OI := hide (OI.out.fr0 hfr)
      have RI := hide ((RI.out.fr0 hfr).more hfr.size)
      have OD := hide (OD.out.fr0 hfr)
      have RD2 := hide ((RD2.out.fr0 hfr).more hfr.size)
      have OX := hide (OX.out.fr0 hfr)
      have OY := hide (OY.out.fr0 hfr)
      have OW := hide (OW.out.fr0 hfr)
      have OU := hide (OU.out.fr0 hfr)
      have OV := hide (OV.out.fr0 hfr)
      have OZ := hide (OZ.out.fr0 hfr)
      have FP := FF
      have FF : Hid (Fr No w w16) := hide (FF.out.tr hfr)
      clear hfr
      go_wp2_with (fail)
      refine (apart8_two w16.heap.size X1 X2 xn xn k1 k2 (by8 xb) (by8 xb) (w16.alloc (.cells #[.slice X1 xn k1, .slice X2 xn k2] 23)) (by omega) (by omega) (heap_alloc_new w16 _) (OX.out.fr0 ((Fr.refl No _).alloc _)) (OY.out.fr0 ((Fr.refl No _).alloc _)) DXY.out).mono ?_
      rintro en w17 ⟨rfl, hfr⟩
      have FF : Hid (Fr No w w17) := hide ((FF.out.alloc (.cells #[.slice X1 xn k1, .slice X2 xn k2] 23)).trans hfr (fun i hi e => by rcases e with e | e; (have := BX.out i e; omega); (have := BY.out i e; omega)))
      have OU := hide ((OU.out.fr0 ((Fr.refl No _).alloc (.cells #[.slice X1 xn k1, .slice X2 xn k2] 23))).fr hfr (fun k hk e => by rcases e with e | e; exact OU.out.apart OX.out (by decide) k hk e; exact OU.out.apart OY.out (by decide) k hk e))
      have OV := hide ((OV.out.fr0 ((Fr.refl No _).alloc (.cells #[.slice X1 xn k1, .slice X2 xn k2] 23))).fr hfr (fun k hk e => by rcases e with e | e; exact OV.out.apart OX.out (by decide) k hk e; exact OV.out.apart OY.out (by decide) k hk e))
      clear hfr
      go_wp2_with (fail)
      refine (apartU64_two w17.heap.size U1 U2 un un j1 j2 _ _ (w17.alloc (.cells #[.slice U1 un j1, .slice U2 un j2] 22)) (by omega) (by omega) (heap_alloc_new w17 _) (OU.out.fr0 ((Fr.refl No _).alloc _)) (OV.out.fr0 ((Fr.refl No _).alloc _)) DUV.out).mono ?_
      rintro en w18 ⟨rfl, hfr⟩
      have FF : Hid (Fr No w w18) := hide ((FF.out.alloc (.cells #[.slice U1 un j1, .slice U2 un j2] 22)).trans hfr (fun i hi e => by rcases e with e | e; (have := BU.out i e; omega); (have := BV.out i e; omega)))
      clear hfr
      go_wp2_with (fail)
      refine (HAw.out w18).mono ?_
      rintro en w19 ⟨rfl, hfr⟩
      have FP := FF
      have FF : Hid (Fr No w w19) := hide (FF.out.tr hfr)
      clear hfr
      go_wp2
      go_ret
      exact ⟨rfl, FF.out⟩
end Go.Proofs.Ytpnhnnhocekchaa
