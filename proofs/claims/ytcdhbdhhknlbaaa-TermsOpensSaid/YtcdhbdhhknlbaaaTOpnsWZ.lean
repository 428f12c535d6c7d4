/- TermsOpens, walked. -/
import Derived.Test.YtcdhbdhhknlbaaaK12
import Derived.Test.YtcdhbdhhknlbaaaSame9Z
namespace Go.Proofs.Ytcdhbdhhknlbaaa
set_option linter.unusedVariables false
set_option linter.unusedSimpArgs false
open Go.RowKit

set_option maxRecDepth 100000 in
set_option maxHeartbeats 4000000 in
theorem topens_any (A0 : Option Addr) (n0 c0 : Nat) (bs : List UInt8) (X Y : ByteArray) (w : World)
    (h0 : bs.length = n0) (x0 : n0 ≤ c0) (y0 : c0 ≤ maxLen) (r0 : Rd w w.heap.size A0 (by8 bs)) (hX : X.size ≤ maxLen) (hY : Y.size ≤ maxLen) :
    Calls Try.prog 6 #[.slice A0 n0 c0, .string X, .string Y] w (RetB true w) := by
  by_cases g0 : 5000 < n0
  · have d1 : decide ((5000 : Int) < (n0 : Int)) = true := decide_eq_true (by omega)
    have d1b : decide (5000 < n0) = true := decide_eq_true g0
    clear y0 r0 hX hY h0
    go_enter Try.func6, Try.ntmps6
    go_wp2_with (go_at_call 10; refine (awake_any _).mono ?_; rintro en w4 ⟨rfl, hfr⟩; have HF4 := hide hfr; clear hfr)
    go_ret
    exact ⟨rfl, HF4.out⟩
  have d1 : decide ((5000 : Int) < (n0 : Int)) = false := decide_eq_false (by omega)
  have d1b : decide (5000 < n0) = false := decide_eq_false g0
  have HL := hide h0
  have HR0 := hide r0
  have HLn := hide (lent8_any A0 n0 c0 w.heap.size bs w h0 (by omega) r0)
  have HXY := hide (And.intro hX hY)
  have HC := hide (And.intro x0 y0)
  clear y0 r0 hX hY h0
  go_enter Try.func6, Try.ntmps6
  go_wp2_with (fail)
  refine HLn.out.mono ?_
  rintro en w1 hg
  obtain ⟨A1, c1, rfl, hob, hfr⟩ := hg
  have hle := hob.le
  rw [HL.out] at hob hle ⊢
  have HO1 := hide hob
  have HF1 := hide hfr
  have HC1 := hide hle.2
  have hr1 : Rd w1 w1.heap.size A1 (by8 bs) := by
    have h := hob.rd.tk bs.length
    rw [← by8_take, List.take_left] at h
    exact h
  have HOp := hide (topen_any A1 n0 c1 w1.heap.size bs w1 HL.out (by omega) hle.2.2 (by omega) (Nat.le_refl _) hr1)
  clear hob hfr hr1 hle HLn
  go_wp2_with (fail)
  refine HOp.out.mono ?_
  rintro en w2 ⟨hfr, hop⟩
  have HO2 := hide (HO1.out.fr0 hfr)
  have HF2 := hide (HF1.out.tr hfr)
  have HRo := hide (ropen_any A0 n0 c0 bs w2 HL.out HC.out.1 HC.out.2 (by omega) ((HR0.out.fr0 HF2.out).more HF2.out.size))
  have HOP := hide hop
  clear hfr HO1 HF1 HOp hop
  rcases HOP.out with ⟨G, l, at_, hfo, rfl, hdm⟩ | ⟨hno, rfl⟩
  · have HFo := hide hfo
    have HDm := hide hdm
    clear hfo hdm HOP
    go_wp2_with (fail)
    refine HRo.out.mono ?_
    rintro en w3 ⟨hfr, (⟨G2, l2, at2, hf2, rfl, hrd⟩ | ⟨hno2, _⟩)⟩
    rotate_left
    · exact absurd HFo.out (hno2 _ _)
    obtain ⟨rfl, rfl⟩ := form9_inj HFo.out hf2
    have HDp : Hid (DictP w3 w1.heap.size (some ⟨G, 0, none⟩) l at_) := hide (DictP.fr0 ⟨.inr ⟨G, rfl, HDm.out⟩⟩ hfr)
    have HRp : Hid (RefP w3 w2.heap.size (some ⟨G2, 0, none⟩) l at_) := hide ⟨.inr ⟨G2, rfl, hrd⟩⟩
    have HAl : Hid (l.length = at_.length) := hide hf2.1.2.1
    have HO3 := hide (HO2.out.fr0 hfr)
    have HF3 := hide (HF2.out.tr hfr)
    clear hfr hf2 hrd HRo HO2 HF2
    go_wp2_with (first
      | (go_at_call 28; refine (same9_any _ _ _ _ _ _ X Y w3 HDp.out HRp.out HAl.out HXY.out.1 HXY.out.2).mono ?_; rintro en w4 ⟨rfl, hfr⟩; have HF4 := hide (HF3.out.tr hfr); have HO4 := hide ((HO3.out.fr0 hfr).rd); clear hfr)
      | (go_at_call 27; refine (kept8_any A1 A0 n0 c1 n0 c0 _ _ bs w4 HL.out HL.out HC1.out.1 HC1.out.2 HC.out.1 HC.out.2 HO4.out (HR0.out.fr0 HF4.out)).mono ?_; rintro en w5 ⟨rfl, nq, rfl⟩; have HF5 := hide (HF4.out.drewN nq))
      | (go_at_call 10; refine (awake_any _).mono ?_; rintro en w6 ⟨rfl, hfr⟩; have HF6 := hide (HF5.out.tr hfr); clear hfr)
      | fail)
    go_ret
    exact ⟨by simp, HF6.out⟩
  · have HNo := hide hno
    clear hno HOP
    go_wp2_with (fail)
    refine HRo.out.mono ?_
    rintro en w3 ⟨hfr, (⟨G2, l2, at2, hf2, rfl, hrd⟩ | ⟨_, rfl⟩)⟩
    · exact absurd hf2 (HNo.out _ _)
    have HDp : Hid (DictP w3 w1.heap.size none [] []) := hide ⟨.inl ⟨rfl, rfl, rfl⟩⟩
    have HRp : Hid (RefP w3 w2.heap.size none [] []) := hide ⟨.inl ⟨rfl, rfl, rfl⟩⟩
    have HAl : Hid (([] : List Tx).length = ([] : List Nat).length) := hide rfl
    have HO3 := hide (HO2.out.fr0 hfr)
    have HF3 := hide (HF2.out.tr hfr)
    clear hfr HRo HO2 HF2
    go_wp2_with (first
      | (go_at_call 28; refine (same9_any _ _ _ _ _ _ X Y w3 HDp.out HRp.out HAl.out HXY.out.1 HXY.out.2).mono ?_; rintro en w4 ⟨rfl, hfr⟩; have HF4 := hide (HF3.out.tr hfr); have HO4 := hide ((HO3.out.fr0 hfr).rd); clear hfr)
      | (go_at_call 27; refine (kept8_any A1 A0 n0 c1 n0 c0 _ _ bs w4 HL.out HL.out HC1.out.1 HC1.out.2 HC.out.1 HC.out.2 HO4.out (HR0.out.fr0 HF4.out)).mono ?_; rintro en w5 ⟨rfl, nq, rfl⟩; have HF5 := hide (HF4.out.drewN nq))
      | (go_at_call 10; refine (awake_any _).mono ?_; rintro en w6 ⟨rfl, hfr⟩; have HF6 := hide (HF5.out.tr hfr); clear hfr)
      | fail)
    go_ret
    exact ⟨by simp, HF6.out⟩
end Go.Proofs.Ytcdhbdhhknlbaaa
