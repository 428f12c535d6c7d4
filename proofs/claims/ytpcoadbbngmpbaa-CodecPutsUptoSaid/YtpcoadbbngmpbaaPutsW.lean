/- The walk of CodecPuts: it answers true; nothing that was there has changed. Condition: what comes in takes at most 2^21 bytes. -/
import Derived.Test.YtpcoadbbngmpbaaPutU
import Derived.Test.YtpcoadbbngmpbaaPutI
import Derived.Test.YtpcoadbbngmpbaaPutT
import Derived.Test.YtpcoadbbngmpbaaRefUint
import Derived.Test.YtpcoadbbngmpbaaLent8
import Derived.Test.YtpcoadbbngmpbaaApart8b
import Derived.Test.YtpcoadbbngmpbaaAwake02
namespace Go.Proofs.Ytpcoadbbngmpbaa
set_option linter.unusedVariables false
set_option linter.unusedSimpArgs false
open Go.RowKit

set_option maxRecDepth 100000 in
set_option maxHeartbeats 400000 in
theorem turned_any (n : Int) (w : World) (h1 : -9223372036854775808 ≤ n) (h2 : n ≤ 9223372036854775807) :
    Calls Try.prog 20 #[.int .i64 n] w (Ret (.int .u64 (zz n)) w) := by
  by_cases h0 : 0 ≤ n
  · have HZ := hide (show (zz n : Int) = IntKind.u64.wrap (2 * IntKind.u64.wrap n) by
      unfold zz
      rw [if_pos h0, IntWalk.u64_in n (by omega), IntWalk.u64_in _ (by omega)]
      omega)
    go_enter Try.func20, Try.ntmps20
    go_wp2
    go_ret
    exact ⟨by rw [HZ.out]; first | rfl | (simp [IntKind.wrap_u64]; omega), rfl⟩
  · have HZ := hide (show (zz n : Int) = -2 * n - 1 by
      unfold zz
      rw [if_neg h0]
      omega)
    go_enter Try.func20, Try.ntmps20
    go_wp2
    go_ret
    exact ⟨by rw [HZ.out]; congr 2; simp [IntKind.wrap_u64]; omega, rfl⟩

set_option maxRecDepth 100000 in
set_option maxHeartbeats 400000 in
theorem refText_any (s : ByteArray) (w : World) (hs : s.size ≤ 140737488350000) :
    Calls Try.prog 21 #[.string s] w (GivesB w (enc s.size ++ s.data.toList)) := by
  have H := hide (refUint_any s.size w (by omega))
  obtain ⟨i0, hi, hz, hsz, hby⟩ := info_parts Try.info5
  have hlen := (enc_len s.size).2
  generalize enc s.size = xs at H hlen
  generalize hm : s.size = m at *
  have HS := fun W => Src.ofString (P := Try.prog) (w := W) Try.underlying9 s
  rw [hm, byteCells_by8] at HS
  have HS' := hide HS
  have hsl : s.data.toList.length = m := by rw [← hm, Array.length_toList]; rfl
  generalize s.data.toList = t at HS' hsl
  have b1 : (xs.length + m) * 1 ≤ 140737488355328 := by omega
  have b2 : xs.length + m ≤ maxLen := by unfold maxLen; omega
  clear HS
  go_enter Try.func21, Try.ntmps21
  go_wp2_with (first | (go_at_call 19; refine H.out.mono ?_; rintro en w1 ⟨v1, rfl, hown, hfr⟩; have HO := hide hown; have HF := hide hfr; have b3 := hfr.size; clear hown hfr) | (at_builtin; refine wpList_append_gen _ rfl (.tmp 8) (.tmp 9) 22 9 rfl w.heap.size 5 i0 (.int .u8 0) 1 1 Try.underlying22 hi hz hsz hby rfl v1 xs.length (by8 xs) rfl HO.out _ m (by8 t) rfl (HS'.out w1) b1 b2 b3 ?_; intro v' w' hown hfr hat; have HOn := hide hown; have HFn := hide hfr; clear hown hfr hat))
  go_ret
  refine ⟨_, rfl, ?_, HF.out.own HFn.out (fun g hg => .inl (HO.out.lt g hg).1)⟩
  rw [by8_append, List.length_append, hsl]
  exact HOn.out
theorem give_own {W w' : World} {en : Ending} {t : List UInt8} {k : Nat} (hk : t.length = k) (h : GivesB W t en w') :
    ∃ A1 c1, en = .returned (.slice A1 k c1) ∧ k ≤ c1 ∧ c1 ≤ maxLen ∧ Own w' W.heap.size 5 1 (.slice A1 k c1) k (by8 t) ∧ Fr No W w' := by
  subst hk
  obtain ⟨v, rfl, ho, hf⟩ := h
  obtain ⟨A1, c1, rfl, h1, h2, _, _, _⟩ := ho.form
  exact ⟨A1, c1, rfl, h1, h2, ho, hf⟩
theorem own_form {w : World} {b e n : Nat} {v : Value} {xs ys : List Value} {m : Nat} (h : Own w b e 1 v n xs) (hn : n = m) (hx : xs = ys) : ∃ A c, v = .slice A m c ∧ m ≤ c ∧ c ≤ maxLen ∧ Own w b e 1 (.slice A m c) m ys := by
  subst hn; subst hx
  obtain ⟨A1, c1, rfl, h1, h2, _, _, _⟩ := h.form
  exact ⟨A1, c1, rfl, h1, h2, h⟩
theorem src8 {w : World} {A : Option Addr} {n c : Nat} {bs : List UInt8} {B : Nat} (hl : bs.length = n) (hr : Rd w B A (by8 bs)) : Src Try.prog 1 22 (.slice A n c) n (by8 bs) w :=
  Src.ofRd (P := Try.prog) (size := 1) w Try.underlying22 A n c (by8 bs) (by rw [by8_length, hl]; omega) (by omega) hr (by8_one _)

set_option maxRecDepth 100000 in
set_option maxHeartbeats 3200000 in
theorem puts_any (A : Option Addr) (n c : Nat) (bs : List UInt8) (u : Nat) (x : Int) (s : ByteArray) (W : World) (hl : bs.length = n) (hn : n ≤ c) (hc : c ≤ maxLen) (hb : n ≤ 2097152) (hr : Rd W W.heap.size A (by8 bs)) (hu : u < 18446744073709551616) (hx1 : -9223372036854775808 ≤ x) (hx2 : x ≤ 9223372036854775807) (hs : s.size ≤ 2097152) :
    Calls Try.prog 4 #[.slice A n c, .int .u64 u, .int .i64 x, .string s] W (RetB true W) := by
  obtain ⟨i0, hi, hz, hsz, hby⟩ := info_parts Try.info5
  have HL := hide hl
  have HR := hide hr
  have HC := hide hc
  -- the three forms
  obtain ⟨ex, hex⟩ : ∃ l, l = enc u := ⟨_, rfl⟩
  obtain ⟨ey, hey⟩ : ∃ l, l = enc (zz x) := ⟨_, rfl⟩
  obtain ⟨ez, hez⟩ : ∃ l, l = enc s.size ++ s.data.toList := ⟨_, rfl⟩
  obtain ⟨lx, hlx⟩ : ∃ k, k = ex.length := ⟨_, rfl⟩
  obtain ⟨ly, hly⟩ : ∃ k, k = ey.length := ⟨_, rfl⟩
  obtain ⟨lz, hlz⟩ : ∃ k, k = ez.length := ⟨_, rfl⟩
  have bx : lx ≤ 10 := by rw [hlx, hex]; exact (enc_len _).2
  have by_ : ly ≤ 10 := by rw [hly, hey]; exact (enc_len _).2
  have bz : lz ≤ 2097162 := by
    have h1 := (enc_len s.size).2
    have h2 : s.data.toList.length = s.size := by rw [Array.length_toList]; rfl
    rw [hlz, hez, List.length_append, h2]; omega
  have PX : Hid (∀ (w : World) (A1 : Option Addr) (c1 : Nat), n ≤ c1 → c1 ≤ maxLen → Rd w w.heap.size A1 (by8 bs) → Calls Try.prog 15 #[.slice A1 n c1, .int .u64 u] w fun en w' => ∃ A2 c2, en = .returned (.slice A2 (n + lx) c2) ∧ n + lx ≤ c2 ∧ c2 ≤ maxLen ∧ Own w' w.heap.size 5 1 (.slice A2 (n + lx) c2) (n + lx) (by8 (bs ++ ex)) ∧ Fr No w w') := fun w A1 c1 h1 h2 h3 => by
    have h := putU_any A1 n c1 w.heap.size bs u w hl h1 h2 (by omega) (Nat.le_refl _) h3 hu
    rw [← hex] at h
    exact h.mono fun en w' h => give_own (by rw [List.length_append, hl, hlx]) h
  have PY : Hid (∀ (w : World) (A1 : Option Addr) (c1 : Nat), n ≤ c1 → c1 ≤ maxLen → Rd w w.heap.size A1 (by8 bs) → Calls Try.prog 16 #[.slice A1 n c1, .int .i64 x] w fun en w' => ∃ A2 c2, en = .returned (.slice A2 (n + ly) c2) ∧ n + ly ≤ c2 ∧ c2 ≤ maxLen ∧ Own w' w.heap.size 5 1 (.slice A2 (n + ly) c2) (n + ly) (by8 (bs ++ ey)) ∧ Fr No w w') := fun w A1 c1 h1 h2 h3 => by
    have h := putI_any A1 n c1 w.heap.size bs x w hl h1 h2 (by omega) (Nat.le_refl _) h3 hx1 hx2
    rw [← hey] at h
    exact h.mono fun en w' h => give_own (by rw [List.length_append, hl, hly]) h
  have PZ : Hid (∀ (w : World) (A1 : Option Addr) (c1 : Nat), n ≤ c1 → c1 ≤ maxLen → Rd w w.heap.size A1 (by8 bs) → Calls Try.prog 18 #[.slice A1 n c1, .string s] w fun en w' => ∃ A2 c2, en = .returned (.slice A2 (n + lz) c2) ∧ n + lz ≤ c2 ∧ c2 ≤ maxLen ∧ Own w' w.heap.size 5 1 (.slice A2 (n + lz) c2) (n + lz) (by8 (bs ++ ez)) ∧ Fr No w w') := fun w A1 c1 h1 h2 h3 => by
    have h := putText_any A1 n c1 w.heap.size bs s w hl h1 h2 (by omega) (Nat.le_refl _) h3
    rw [List.append_assoc, ← hez] at h
    exact h.mono fun en w' h => give_own (by rw [List.length_append, hl, hlz]) h
  have UX : Hid (∀ w : World, Calls Try.prog 19 #[.int .u64 u] w fun en w' => ∃ A1 c1, en = .returned (.slice A1 lx c1) ∧ lx ≤ c1 ∧ c1 ≤ maxLen ∧ Rd w' w'.heap.size A1 (by8 ex) ∧ Fr No w w') := fun w => by
    have h := refUint_any u w hu
    rw [← hex] at h
    exact h.mono fun en w' h => give_slice hlx.symm h
  have UT : Hid (∀ w : World, Calls Try.prog 20 #[.int .i64 x] w (Ret (.int .u64 (zz x)) w)) := fun w => turned_any x w hx1 hx2
  have UY : Hid (∀ w : World, Calls Try.prog 19 #[.int .u64 (zz x)] w fun en w' => ∃ A1 c1, en = .returned (.slice A1 ly c1) ∧ ly ≤ c1 ∧ c1 ≤ maxLen ∧ Rd w' w'.heap.size A1 (by8 ey) ∧ Fr No w w') := fun w => by
    have h := refUint_any (zz x) w (zz_lt hx1 hx2)
    rw [← hey] at h
    exact h.mono fun en w' h => give_slice hly.symm h
  have UZ : Hid (∀ w : World, Calls Try.prog 21 #[.string s] w fun en w' => ∃ A1 c1, en = .returned (.slice A1 lz c1) ∧ lz ≤ c1 ∧ c1 ≤ maxLen ∧ Rd w' w'.heap.size A1 (by8 ez) ∧ Fr No w w') := fun w => by
    have h := refText_any s w (by omega)
    rw [← hez] at h
    exact h.mono fun en w' h => give_slice hlz.symm h
  have KX : Hid (∀ (w : World) (A1 A2 : Option Addr) (k c1 c2 b1 b2 : Nat) (t : List UInt8), t.length = k → k ≤ c1 → c1 ≤ maxLen → k ≤ c2 → c2 ≤ maxLen → Rd w b1 A1 (by8 t) → Rd w b2 A2 (by8 t) → Calls Try.prog 14 #[.slice A1 k c1, .slice A2 k c2] w (RetQ (.bool true) w)) := fun w A1 A2 k c1 c2 b1 b2 t ht h1 h2 h3 h4 h5 h6 => by
    have h := kbytes_any A1 A2 k c1 k c2 b1 b2 t t w ht ht h1 h2 h3 h4 h5 h6
    rw [decide_eq_true rfl] at h
    exact h
  have TX : Hid ((bs ++ ex).length = n + lx) := by show _ = _; rw [List.length_append, hl, hlx]
  have TY : Hid ((bs ++ ey).length = n + ly) := by show _ = _; rw [List.length_append, hl, hly]
  have TZ : Hid ((bs ++ ez).length = n + lz) := by show _ = _; rw [List.length_append, hl, hlz]
  have EX := hide hlx
  have EY := hide hly
  have EZ := hide hlz
  generalize zz x = zx at UT UY
  clear hex hey hez hlx hly hlz hr hl hu hx1 hx2 hs hc
  have b0 : (0 + n) * 1 ≤ 140737488355328 := by omega
  have b0' : 0 + n ≤ maxLen := by unfold maxLen; omega
  have bX : (0 + n + lx) * 1 ≤ 140737488355328 := by omega
  have bX' : 0 + n + lx ≤ maxLen := by unfold maxLen; omega
  have bY : (0 + n + ly) * 1 ≤ 140737488355328 := by omega
  have bY' : 0 + n + ly ≤ maxLen := by unfold maxLen; omega
  have bZ : (0 + n + lz) * 1 ≤ 140737488355328 := by omega
  have bZ' : 0 + n + lz ≤ maxLen := by unfold maxLen; omega
  go_enter Try.func4, Try.ntmps4
  go_wp2_with (first
    | (go_at_call 17; refine (lent8_any A n c _ bs W HL.out (by omega) HR.out).mono ?_; rintro en w1 ⟨Ai, ci, rfl, hown, hfr⟩; rw [HL.out] at hown ⊢; obtain ⟨_, hi1, hi2⟩ := hown.le; have OI := hide hown; have FI := hide hfr; clear hown hfr; have QI : Hid (Rd w1 w1.heap.size Ai (by8 bs)) := hide (by
        have h := OI.out.rd.tk n
        rw [← by8_take, List.take_append_of_le_length (by rw [HL.out]; omega), List.take_of_length_le (by rw [HL.out]; omega)] at h
        exact h); have hin : n ≤ ci := by omega)
    | (go_at_call 15; refine (PX.out w1 Ai ci hin hi2 QI.out).mono ?_; rintro en w2 ⟨Ax, cx, rfl, hx1, hx2, hown, hfr⟩; have OX := hide hown; have F2 := hide hfr; clear hown hfr)
    | (go_at_call 16; refine (PY.out w2 Ai ci hin hi2 ((QI.out.fr0 F2.out).more F2.out.size)).mono ?_; rintro en w3 ⟨Ay, cy, rfl, hy1, hy2, hown, hfr⟩; have OY := hide hown; have F3 := hide hfr; clear hown hfr)
    | (go_at_call 18; refine (PZ.out w3 Ai ci hin hi2 ((QI.out.fr0 (F2.out.tr F3.out)).more (Nat.le_trans F2.out.size F3.out.size))).mono ?_; rintro en w4 ⟨Az, cz, rfl, hz1, hz2, hown, hfr⟩; have OZ := hide hown; have F4 := hide hfr; have W4 : Hid (Fr No W w4) := hide (((FI.out.tr F2.out).tr F3.out).tr hfr); clear hown hfr)
    | (at_builtin; refine wpList_append_gen _ rfl (.tmp 27) (.tmp 28) 22 22 rfl w4.heap.size 5 i0 (.int .u8 0) 1 1 Try.underlying22 hi hz hsz hby rfl (.slice none 0 0) (0) ([]) rfl (Own.nil _ _ _ _) _ (n) (by8 bs) rfl (src8 HL.out (HR.out.fr0 W4.out)) b0 b0' (Nat.le_refl _) ?_; intro v5 w5 hown hfr hat; have O5 := hide hown; have F5 : Hid (Fr No w4 w5) := hide ((Fr.refl No w4).own hfr (fun g h => by cases h)); clear hown hfr hat)
    | (go_at_call 19; have mk := O5; clear mk; refine (UX.out w5).mono ?_; rintro en w6 ⟨A6, c6, rfl, _, _, hrd, hfr⟩; have Q6 := hide hrd; have O6 := hide (O5.out.fr0 hfr); have F6 := hide (F5.out.tr hfr); clear hrd hfr O5 F5)
    | (at_builtin; refine wpList_append_gen _ rfl (.tmp 29) (.tmp 31) 22 22 rfl w4.heap.size 5 i0 (.int .u8 0) 1 1 Try.underlying22 hi hz hsz hby rfl v5 (0 + n) ([] ++ by8 bs) rfl (O6.out) _ (lx) (by8 ex) rfl (src8 EX.out.symm Q6.out) bX bX' (F6.out.size) ?_; intro v7 w7 hown hfr hat; obtain ⟨Ap, cp, rfl, hp1, hp2, hown⟩ := own_form (m := n + lx) (ys := by8 (bs ++ ex)) hown (by omega) (by rw [by8_append, List.nil_append]); have OP := hide hown; have F7 : Hid (Fr No w4 w7) := hide (F6.out.own hfr (fun g hg => .inl (O6.out.lt g hg).1)); have W7 := hide (W4.out.tr F7.out); clear hown hfr hat)
    | (at_builtin; refine wpList_append_gen _ rfl (.tmp 33) (.tmp 34) 22 22 rfl w7.heap.size 5 i0 (.int .u8 0) 1 1 Try.underlying22 hi hz hsz hby rfl (.slice none 0 0) (0) ([]) rfl (Own.nil _ _ _ _) _ (n) (by8 bs) rfl (src8 HL.out (HR.out.fr0 W7.out)) b0 b0' (Nat.le_refl _) ?_; intro v8 w8 hown hfr hat; have O8 := hide hown; have F8 : Hid (Fr No w7 w8) := hide ((Fr.refl No w7).own hfr (fun g h => by cases h)); clear hown hfr hat)
    | (go_at_call 20; refine (UT.out _).mono ?_; rintro en wq ⟨rfl, rfl⟩)
    | (go_at_call 19; have mk := O8; clear mk; refine (UY.out w8).mono ?_; rintro en w9 ⟨A9, c9, rfl, _, _, hrd, hfr⟩; have Q9 := hide hrd; have O9 := hide (O8.out.fr0 hfr); have F9 := hide (F8.out.tr hfr); clear hrd hfr O8 F8)
    | (at_builtin; refine wpList_append_gen _ rfl (.tmp 35) (.tmp 38) 22 22 rfl w7.heap.size 5 i0 (.int .u8 0) 1 1 Try.underlying22 hi hz hsz hby rfl v8 (0 + n) ([] ++ by8 bs) rfl (O9.out) _ (ly) (by8 ey) rfl (src8 EY.out.symm Q9.out) bY bY' (F9.out.size) ?_; intro v10 w10 hown hfr hat; obtain ⟨Aq, cq, rfl, hq1, hq2, hown⟩ := own_form (m := n + ly) (ys := by8 (bs ++ ey)) hown (by omega) (by rw [by8_append, List.nil_append]); have OQ := hide hown; have F10 : Hid (Fr No w7 w10) := hide (F9.out.own hfr (fun g hg => .inl (O9.out.lt g hg).1)); have W10 := hide (W7.out.tr F10.out); clear hown hfr hat)
    | (at_builtin; refine wpList_append_gen _ rfl (.tmp 40) (.tmp 41) 22 22 rfl w10.heap.size 5 i0 (.int .u8 0) 1 1 Try.underlying22 hi hz hsz hby rfl (.slice none 0 0) (0) ([]) rfl (Own.nil _ _ _ _) _ (n) (by8 bs) rfl (src8 HL.out (HR.out.fr0 W10.out)) b0 b0' (Nat.le_refl _) ?_; intro v11 w11 hown hfr hat; have O11 := hide hown; have F11 : Hid (Fr No w10 w11) := hide ((Fr.refl No w10).own hfr (fun g h => by cases h)); clear hown hfr hat)
    | (go_at_call 21; refine (UZ.out w11).mono ?_; rintro en w12 ⟨A12, c12, rfl, _, _, hrd, hfr⟩; have Q12 := hide hrd; have O12 := hide (O11.out.fr0 hfr); have F12 := hide (F11.out.tr hfr); clear hrd hfr O11 F11)
    | (at_builtin; refine wpList_append_gen _ rfl (.tmp 42) (.tmp 44) 22 22 rfl w10.heap.size 5 i0 (.int .u8 0) 1 1 Try.underlying22 hi hz hsz hby rfl v11 (0 + n) ([] ++ by8 bs) rfl (O12.out) _ (lz) (by8 ez) rfl (src8 EZ.out.symm Q12.out) bZ bZ' (F12.out.size) ?_; intro v13 w13 hown hfr hat; obtain ⟨At, ct, rfl, ht1, ht2, hown⟩ := own_form (m := n + lz) (ys := by8 (bs ++ ez)) hown (by omega) (by rw [by8_append, List.nil_append]); have OT := hide hown; have F13 : Hid (Fr No w10 w13) := hide (F12.out.own hfr (fun g hg => .inl (O12.out.lt g hg).1)); have W13 := hide (W10.out.tr F13.out); have G10 := F13; have G7 := hide (F10.out.tr F13.out); have G4 := hide (F7.out.tr G7.out); have G3 := hide (F4.out.tr G4.out); have G2 := hide (F3.out.tr G3.out); have G1 := hide (F2.out.tr G2.out); have sz2 := F2.out.size; have sz3 := F3.out.size; have DXY : Hid (∀ k, (Value.slice Ax (n + lx) cx).ownBlock = some k → (Value.slice Ay (n + ly) cy).ownBlock ≠ some k) := hide (fun k h h2 => by have := (OX.out.lt k h).2; have := (OY.out.lt k h2).1; omega); have DXZ : Hid (∀ k, (Value.slice Ax (n + lx) cx).ownBlock = some k → (Value.slice Az (n + lz) cz).ownBlock ≠ some k) := hide (fun k h h2 => by have := (OX.out.lt k h).2; have := (OZ.out.lt k h2).1; omega); have DYZ : Hid (∀ k, (Value.slice Ay (n + ly) cy).ownBlock = some k → (Value.slice Az (n + lz) cz).ownBlock ≠ some k) := hide (fun k h h2 => by have := (OY.out.lt k h).2; have := (OZ.out.lt k h2).1; omega); have LTS : Hid (∀ k, ((Value.slice Ax (n + lx) cx).ownBlock = some k ∨ (Value.slice Ay (n + ly) cy).ownBlock = some k ∨ (Value.slice Az (n + lz) cz).ownBlock = some k) → w1.heap.size ≤ k) := hide (fun k h => h.elim (fun h => (OX.out.lt k h).1) (fun h => h.elim (fun h => Nat.le_trans sz2 (OY.out.lt k h).1) (fun h => Nat.le_trans (Nat.le_trans sz2 sz3) (OZ.out.lt k h).1))); clear hown hfr hat)
    | (go_at_call_of 14 (Value.slice Ax (n + lx) cx); refine (KX.out _ Ax Ap (n + lx) cx cp _ _ (bs ++ ex) TX.out hx1 hx2 hp1 hp2 (OX.out.rd.fr0 G2.out) (OP.out.rd.fr0 G7.out)).mono ?_; rintro en wq ⟨rfl, nq1, rfl⟩)
    | (go_at_call_of 14 (Value.slice Ay (n + ly) cy); refine (KX.out _ Ay Aq (n + ly) cy cq _ _ (bs ++ ey) TY.out hy1 hy2 hq1 hq2 (OY.out.rd.fr0 (G3.out.drewN _)) (OQ.out.rd.fr0 (G10.out.drewN _))).mono ?_; rintro en wq ⟨rfl, nq2, rfl⟩)
    | (go_at_call_of 14 (Value.slice Az (n + lz) cz); refine (KX.out _ Az At (n + lz) cz ct _ _ (bs ++ ez) TZ.out hz1 hz2 ht1 ht2 (OZ.out.rd.fr0 (G4.out.drewN _)) (OT.out.rd.fr0 ((Fr.refl No w13).drewN _))).mono ?_; rintro en wq ⟨rfl, nq3, rfl⟩)
    | (go_at_call 22; refine (kept8_any Ai A n ci n c w1.heap.size W.heap.size bs _ HL.out HL.out hi1 hi2 hn HC.out (OI.out.rd.fr K1.out (fun k hk h => by have := LTS.out k h; omega)) (HR.out.fr0 W15.out)).mono ?_; rintro en wq ⟨rfl, nq5, rfl⟩)
    | (go_at_call 22; refine (kept8_any Ai A n ci n c _ _ bs _ HL.out HL.out hi1 hi2 hn HC.out (OI.out.rd.fr0 (G1.out.drewN _)) (HR.out.fr0 (W13.out.drewN _))).mono ?_; rintro en wq ⟨rfl, nq4, rfl⟩)
    | (go_at_call 23; refine (apart8_three w13.heap.size Ax Ay Az (n + lx) (n + ly) (n + lz) cx cy cz (by8 (bs ++ ex)) (by8 (bs ++ ey)) (by8 (bs ++ ez)) _ (by omega) (by omega) (by omega) (heap_alloc_new (w13.drewN (nq1 + nq2 + nq3 + nq4)) _) ((OX.out.lower (Nat.zero_le _)).fr0 ((G2.out.drewN _).alloc _)) ((OY.out.lower (Nat.zero_le _)).fr0 ((G3.out.drewN _).alloc _)) ((OZ.out.lower (Nat.zero_le _)).fr0 ((G4.out.drewN _).alloc _)) DXY.out DXZ.out DYZ.out).mono ?_; rintro en w15 ⟨rfl, hfr⟩; have K1 := hide (((G1.out.drewN _).alloc _).any _ |>.ts hfr); have W15 : Hid (Fr No W w15) := hide (((W13.out.drewN _).alloc _).trans hfr (fun k hk h => by have := LTS.out k h; have := FI.out.size; omega)); clear hfr)
    | (go_at_call 13; refine (awake_any _).mono ?_; rintro en w16 ⟨rfl, hfr⟩; have W16 := hide ((W15.out.drewN _).tr hfr); clear hfr))
  go_ret
  exact ⟨rfl, W16.out⟩
end Go.Proofs.Ytpcoadbbngmpbaa
