/- The walk of CodecOne: it answers true; nothing that was there has changed. Condition: bytes that take at most 2^47 bytes. -/
import Derived.Test.YtpcoadbbngmpbaaCodecH
import Derived.Deep.RegionWith
namespace Go.Proofs.Ytpcoadbbngmpbaa
open Go.RowKit

theorem RD.lt {w : World} {g : Nat} {bs : List UInt8} {a : Nat} {e : Int} (h : RD w g bs a e) : g < w.heap.size := by
  obtain ⟨A, c, hh, _⟩ := h
  exact (Array.getElem?_eq_some_iff.1 hh).1
theorem RD.other {w w' : World} {g g2 : Nat} {bs bs2 : List UInt8} {a a2 : Nat} {e e2 : Int} (h : RD w g bs a e) (h2 : RD w g2 bs2 a2 e2) (f : Fr (Is g2) w w') (hne : g ≠ g2) : RD w' g bs a e := by
  obtain ⟨A, c, hh, h1, h2', h3, h4, ho⟩ := h
  obtain ⟨A2, c2, hh2, _⟩ := h2
  refine ⟨A, c, f.blk hh hne, h1, h2', h3, h4, ho.fr f ?_⟩
  rintro g' hg' rfl
  exact ho.ne_blk hg' hh2 (by decide)
theorem Fr.own1 {a b c : World} {g : Nat} (h : Fr No a b) (k : Fr (Is g) b c) (hg : a.heap.size ≤ g) : Fr No a c :=
  h.trans k (fun i hi e => by have : i = g := e; omega)
theorem uintR_none {bs : List UInt8} {a : Nat} (hd : dec 0 0 (bs.drop a) = none) : uintR bs a 0 = (0, a, 20) := by unfold uintR; rw [if_pos rfl, hd]
theorem uintR_some {bs : List UInt8} {a u k : Nat} (hd : dec 0 0 (bs.drop a) = some (u, k)) : uintR bs a 0 = (u, a + k, 0) := by unfold uintR; rw [if_pos rfl, hd]
theorem give_slice {W w' : World} {en : Ending} {t : List UInt8} {k : Nat} (hk : t.length = k) (h : GivesB W t en w') :
    ∃ A1 c1, en = .returned (.slice A1 k c1) ∧ k ≤ c1 ∧ c1 ≤ maxLen ∧ Rd w' w'.heap.size A1 (by8 t) ∧ Fr No W w' := by
  subst hk
  obtain ⟨v, rfl, ho, hf⟩ := h
  obtain ⟨A1, c1, rfl, h1, h2, _, h3, _⟩ := ho.form
  exact ⟨A1, c1, rfl, h1, h2, h3, hf⟩

set_option maxRecDepth 100000 in
set_option maxHeartbeats 1600000 in
theorem codecOne_none (A : Option Addr) (n c B : Nat) (bs : List UInt8) (W : World) (hl : bs.length = n) (hn : n ≤ c) (hc : c ≤ maxLen) (hb : n ≤ 140737488355328) (hB : B ≤ W.heap.size) (hr : Rd W B A (by8 bs)) (hd : dec 0 0 bs = none) :
    Calls Try.prog 3 #[.slice A n c] W (RetB true W) := by
  have hd0 : dec 0 0 (bs.drop 0) = none := by simpa using hd
  have HU : Hid (∀ w g, RD w g bs 0 0 → Calls Try.prog 9 #[.pointer (some ⟨g, 0, none⟩)] w (RDRet (.int .u64 0) w g bs 0 20)) := by
    intro w g h
    have h1 := uint_any g bs 0 0 w h
    rw [uintR_none hd0] at h1
    exact h1
  have HI : Hid (∀ w g, RD w g bs 0 0 → Calls Try.prog 11 #[.pointer (some ⟨g, 0, none⟩)] w (RDRet (.int .i64 0) w g bs 0 20)) := by
    intro w g h
    have h1 := int_any g bs 0 0 w h
    rw [uintR_none hd0] at h1
    exact h1
  have HLf : Hid (∀ w g, RD w g bs 0 20 → Calls Try.prog 10 #[.pointer (some ⟨g, 0, none⟩)] w (RetQ (.int .i64 (n : Int)) w)) := by
    intro w g h
    have h1 := left_any g bs 0 20 w h
    rw [hl, Nat.sub_zero] at h1
    exact h1
  have HL := hide hl
  have HR := hide hr
  have HB := hide hB
  clear hl hr hd hd0 hB
  go_enter Try.func3, Try.ntmps3
  go_wp2_with (first
    | (go_at_call 8; refine (newReader_any A n c B bs (w2.drewN nq) HL.out hn hc hb (Nat.le_trans HB.out FW2.out.size) (HR.out.fr0 (FW2.out.drewN nq))).mono ?_; rintro en w4 ⟨g2, rfl, hg2, hrd, hfr⟩; have S4 := hide hrd; have R4 := hide ((R2.out.drewN nq).fr0 hfr); have FW4 := hide ((FW2.out.drewN nq).tr hfr); have HG2 := hide hg2; clear hrd hfr hg2)
    | (go_at_call 8; refine (newReader_any A n c B bs _ HL.out hn hc hb HB.out HR.out).mono ?_; rintro en w1 ⟨g1, rfl, hg1, hrd, hfr⟩; have R1 := hide hrd; have FW1 := hide hfr; have HG1 := hide hg1; clear hrd hfr hg1)
    | (go_at_call 9; refine (HU.out _ _ R1.out).mono ?_; rintro en w2 ⟨rfl, hrd, hfr⟩; have R2 := hide hrd; have FW2 := hide (FW1.out.own1 hfr HG1.out); clear hrd hfr)
    | (go_at_call 10; refine (HLf.out _ _ R2.out).mono ?_; rintro en w3 ⟨rfl, nq, rfl⟩)
    | (go_at_call 11; refine (HI.out _ _ S4.out).mono ?_; rintro en w5 ⟨rfl, hrd, hfr⟩; have S5 := hide hrd; have R5 := hide (R4.out.other S4.out hfr (Nat.ne_of_lt (Nat.lt_of_lt_of_le R2.out.lt HG2.out))); have FW5 := hide (FW4.out.own1 hfr (Nat.le_trans FW2.out.size HG2.out)); clear hrd hfr)
    | (go_at_call_of 12 (Value.pointer (some ⟨g1, 0, none⟩)); refine (err_any g1 bs 0 20 _ R5.out).mono ?_; rintro en w6 ⟨rfl, rfl⟩)
    | (go_at_call_of 12 (Value.pointer (some ⟨g2, 0, none⟩)); refine (err_any g2 bs 0 20 _ S5.out).mono ?_; rintro en w6 ⟨rfl, rfl⟩)
    | (go_at_call 13; refine (awake_any _).mono ?_; rintro en w8 ⟨rfl, hfr⟩; have FW8 := hide (FW5.out.tr hfr); clear hfr))
  go_ret
  exact ⟨rfl, FW8.out⟩

set_option maxRecDepth 100000 in
set_option maxHeartbeats 1600000 in
theorem codecOne_some (A : Option Addr) (n c B : Nat) (bs : List UInt8) (W : World) (u k : Nat) (hl : bs.length = n) (hn : n ≤ c) (hc : c ≤ maxLen) (hb : n ≤ 140737488355328) (hB : B ≤ W.heap.size) (hr : Rd W B A (by8 bs)) (hd : dec 0 0 bs = some (u, k)) :
    Calls Try.prog 3 #[.slice A n c] W (RetB true W) := by
  have hd0 : dec 0 0 (bs.drop 0) = some (u, k) := by simpa using hd
  have hk := dec_le _ _ _ _ _ hd
  have hkn : k ≤ n := by omega
  have hu := dec_lt _ 0 0 u k (by decide) hd
  have ht : (bs.take k).length = k := by simp; omega
  have hx := unzz_bd hu
  have hzz := zz_unzz u
  have hen := enc_dec hd
  obtain ⟨l, hlk, hl0, hl1, hln⟩ : ∃ l : Int, (n : Int) - l = (k : Int) ∧ 0 ≤ l ∧ l ≤ n ∧ l = ((n - k : Nat) : Int) := ⟨(n - k : Nat), by omega, by omega, by omega, rfl⟩
  have HU : Hid (∀ w g, RD w g bs 0 0 → Calls Try.prog 9 #[.pointer (some ⟨g, 0, none⟩)] w (RDRet (.int .u64 u) w g bs k 0)) := by
    intro w g h
    have h1 := uint_any g bs 0 0 w h
    rw [uintR_some hd0, Nat.zero_add] at h1
    exact h1
  have HI0 : Hid (∀ w g, RD w g bs 0 0 → Calls Try.prog 11 #[.pointer (some ⟨g, 0, none⟩)] w (RDRet (.int .i64 (unzz u)) w g bs k 0)) := by
    intro w g h
    have h1 := int_any g bs 0 0 w h
    rw [uintR_some hd0, Nat.zero_add] at h1
    exact h1
  have HLf : Hid (∀ w g, RD w g bs k 0 → Calls Try.prog 10 #[.pointer (some ⟨g, 0, none⟩)] w (RetQ (.int .i64 l) w)) := by
    intro w g h
    have h1 := left_any g bs k 0 w h
    rw [hl, ← hln] at h1
    exact h1
  have HPU : Hid (∀ w, Calls Try.prog 15 #[.slice none 0 0, .int .u64 u] w fun en w' => ∃ A1 c1, en = .returned (.slice A1 k c1) ∧ k ≤ c1 ∧ c1 ≤ maxLen ∧ Rd w' w'.heap.size A1 (by8 (bs.take k)) ∧ Fr No w w') := by
    intro w
    have h1 := putU_any none 0 0 0 [] u w rfl (Nat.le_refl _) (Nat.zero_le _) (by omega) (Nat.zero_le _) (Rd.nil _ _ _) hu
    rw [List.nil_append, hen] at h1
    exact h1.mono fun en w' h => give_slice ht h
  have HPI : Hid (∀ w, Calls Try.prog 16 #[.slice none 0 0, .int .i64 (unzz u)] w fun en w' => ∃ A1 c1, en = .returned (.slice A1 k c1) ∧ k ≤ c1 ∧ c1 ≤ maxLen ∧ Rd w' w'.heap.size A1 (by8 (bs.take k)) ∧ Fr No w w') := by
    intro w
    have h1 := putI_any none 0 0 0 [] (unzz u) w rfl (Nat.le_refl _) (Nat.zero_le _) (by omega) (Nat.zero_le _) (Rd.nil _ _ _) hx.1 hx.2
    rw [List.nil_append, hzz, hen] at h1
    exact h1.mono fun en w' h => give_slice ht h
  have HR2 : Hid (Rd W B A (by8 (bs.take k))) := by rw [by8_take]; exact hr.tk k
  have HKB : Hid (∀ w A1 c1, k ≤ c1 → c1 ≤ maxLen → Rd w w.heap.size A1 (by8 (bs.take k)) → Rd w B A (by8 (bs.take k)) → Calls Try.prog 14 #[.slice A1 k c1, .slice A k c] w (RetQ (.bool true) w)) := by
    intro w A1 c1 h1 h2 h3 h4
    have h5 := kbytes_any A1 A k c1 k c _ B (bs.take k) (bs.take k) w ht ht h1 h2 (Nat.le_trans hkn hn) hc h3 h4
    rw [decide_eq_true rfl] at h5
    exact h5
  generalize bs.take k = t at HPU HPI HR2 HKB
  generalize unzz u = x at HI0 HPI
  have HI := HI0
  have HL := hide hl
  have HR := hide hr
  have HB := hide hB
  have HC := hide hc
  unfold maxLen at hc
  clear hl hr hd hd0 hB HI0 hk hu hx hzz hen ht hln
  go_enter Try.func3, Try.ntmps3
  go_wp2_with (first
    | (go_at_call 8; refine (newReader_any A n c B bs (w2.drewN nq) HL.out hn HC.out hb (Nat.le_trans HB.out FW2.out.size) (HR.out.fr0 (FW2.out.drewN nq))).mono ?_; rintro en w4 ⟨g2, rfl, hg2, hrd, hfr⟩; have S4 := hide hrd; have R4 := hide ((R2.out.drewN nq).fr0 hfr); have FW4 := hide ((FW2.out.drewN nq).tr hfr); have HG2 := hide hg2; clear hrd hfr hg2)
    | (go_at_call 8; refine (newReader_any A n c B bs _ HL.out hn HC.out hb HB.out HR.out).mono ?_; rintro en w1 ⟨g1, rfl, hg1, hrd, hfr⟩; have R1 := hide hrd; have FW1 := hide hfr; have HG1 := hide hg1; clear hrd hfr hg1)
    | (go_at_call 9; refine (HU.out _ _ R1.out).mono ?_; rintro en w2 ⟨rfl, hrd, hfr⟩; have R2 := hide hrd; have FW2 := hide (FW1.out.own1 hfr HG1.out); clear hrd hfr)
    | (go_at_call 10; refine (HLf.out _ _ R2.out).mono ?_; rintro en w3 ⟨rfl, nq, rfl⟩)
    | (go_at_call 11; refine (HI.out _ _ S4.out).mono ?_; rintro en w5 ⟨rfl, hrd, hfr⟩; have S5 := hide hrd; have R5 := hide (R4.out.other S4.out hfr (Nat.ne_of_lt (Nat.lt_of_lt_of_le R2.out.lt HG2.out))); have FW5 := hide (FW4.out.own1 hfr (Nat.le_trans FW2.out.size HG2.out)); clear hrd hfr)
    | (go_at_call_of 12 (Value.pointer (some ⟨g1, 0, none⟩)); refine (err_any g1 bs k 0 _ R5.out).mono ?_; rintro en w6 ⟨rfl, rfl⟩))
  clear HU HI R1 R2 S4 R4 FW1 FW2 FW4 HG1 HG2
  go_region_with (first
    | (go_at_call 15; refine (HPU.out _).mono ?_; rintro en v1 ⟨A1, d1, rfl, hq1, hq2, hq3, hfr⟩; have Q1 := hide hq3; have GV1 : Hid (Fr No w5 v1) := Fr.tr (by first | exact Fr.refl _ _ | exact (Fr.refl _ _).drew | exact (Fr.refl _ _).drewN _) hfr; clear hfr hq3)
    | (go_at_call 14; refine (HKB.out _ A2 d2 hr1 hr2 ?_ ?_).mono ?_; exact Q2.out; exact HR2.out.fr0 (FW5.out.tr GV3.out); rintro en v4 ⟨rfl, nq2, rfl⟩)
    | (go_at_call 14; refine (HKB.out _ A1 d1 hq1 hq2 ?_ ?_).mono ?_; exact Q1.out; exact HR2.out.fr0 (FW5.out.tr GV1.out); rintro en v2 ⟨rfl, nq1, rfl⟩)
    | (go_at_call 16; refine (HPI.out _).mono ?_; rintro en v3 ⟨A2, d2, rfl, hr1, hr2, hr3, hfr⟩; have Q2 := hide hr3; have GV3 : Hid (Fr No w5 v3) := Fr.tr (by first | exact GV1.out | exact GV1.out.drew | exact GV1.out.drewN _ | exact (GV1.out.drewN _).drew) hfr; clear hfr hr3)
    | (go_at_call_of 10 (Value.pointer (some ⟨g1, 0, none⟩)); refine (HLf.out _ g1 ?_).mono ?_; (first | exact (R5.out.fr0 GV3.out).drewN _ | exact ((R5.out.fr0 GV3.out).drewN _).drewN _); rintro en v6 ⟨rfl, nq4, rfl⟩)
    | (go_at_call_of 10 (Value.pointer (some ⟨g2, 0, none⟩)); refine (HLf.out _ g2 ?_).mono ?_; (first | exact (S5.out.fr0 GV3.out).drewN _ | exact S5.out.fr0 GV3.out); rintro en v5 ⟨rfl, nq3, rfl⟩)
    | (go_at_call 13; refine (awake_any _).mono ?_; rintro en v8 ⟨rfl, hfr⟩; have GV8 : Hid (Fr No w5 v8) := Fr.tr (by first | exact GV3.out | exact GV3.out.drew | exact GV3.out.drewN _ | exact (GV3.out.drewN _).drew) hfr; clear hfr))
  all_goals (try go_wp2)
  all_goals go_ret
  all_goals exact ⟨rfl, FW5.out.tr GV8.out⟩

theorem codecOne_any (A : Option Addr) (n c B : Nat) (bs : List UInt8) (W : World) (hl : bs.length = n) (hn : n ≤ c) (hc : c ≤ maxLen) (hb : n ≤ 140737488355328) (hB : B ≤ W.heap.size) (hr : Rd W B A (by8 bs)) :
    Calls Try.prog 3 #[.slice A n c] W (RetB true W) := by
  cases hd : dec 0 0 bs with
  | none => exact codecOne_none A n c B bs W hl hn hc hb hB hr hd
  | some x => exact codecOne_some A n c B bs W x.1 x.2 hl hn hc hb hB hr hd
end Go.Proofs.Ytpcoadbbngmpbaa
