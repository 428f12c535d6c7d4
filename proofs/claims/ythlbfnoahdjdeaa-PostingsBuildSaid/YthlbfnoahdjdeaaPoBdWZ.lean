/- PostingsBuild, walked. -/
import Derived.Test.YthlbfnoahdjdeaaK18
namespace Go.Proofs.Ythlbfnoahdjdeaa
set_option linter.unusedVariables false
set_option linter.unusedSimpArgs false
open Go.RowKit

/-- what Build answers: a number, bytes. -/
def bdP (l : List Po) (e : Int) (bs : List UInt8) : Prop := (e = 0 ∧ rightP l ∧ bs = buildP l) ∨ (e = 1 ∧ ¬ rightP l ∧ bs = [])
theorem bdP_inj {l : List Po} {e e' : Int} {bs bs' : List UInt8} (h : bdP l e bs) (h' : bdP l e' bs') : e' = e ∧ bs' = bs := by
  rcases h with ⟨h1, h2, h3⟩ | ⟨h1, h2, h3⟩ <;> rcases h' with ⟨k1, k2, k3⟩ | ⟨k1, k2, k3⟩
  · exact ⟨by rw [h1, k1], by rw [h3, k3]⟩
  · exact absurd h2 k2
  · exact absurd k2 h2
  · exact ⟨by rw [h1, k1], by rw [h3, k3]⟩
theorem buildP_le {l : List Po} (h : rightP l) : (buildP l).length ≤ 20000000000 := by
  have h1 := bodP_le h (nbP l.length)
  have h2 := right_16 h
  have h3 := (enc_len l.length).2
  rw [buildP, List.length_append]
  have h4 : nbP l.length ≤ 2048 := by unfold nbP; omega
  omega
theorem bdP_le {l : List Po} {e : Int} {bs : List UInt8} (h : bdP l e bs) : bs.length ≤ 20000000000 := by
  rcases h with ⟨_, h2, h3⟩ | ⟨_, _, h3⟩
  · rw [h3]; exact buildP_le h2
  · rw [h3]; simp
theorem pbuild_bd {w w' : World} {l : List Po} {en : Ending} (h : BuildQ w l en w') :
    Fr No w w' ∧ ∃ (A : Option Addr) (m : Nat) (e : Int) (bs : List UInt8), en = .returned (.tuple #[.slice A m m, .int .i64 e]) ∧ bs.length = m ∧ Own w' w.heap.size 5 1 (.slice A m m) m (by8 bs) ∧ bdP l e bs := by
  obtain ⟨h1, (⟨h2, A, m, h3, h4, h5⟩ | ⟨h2, h3⟩)⟩ := h
  · exact ⟨h1, A, m, 0, buildP l, h4, h3.symm, h5, .inl ⟨rfl, h2, rfl⟩⟩
  · exact ⟨h1, none, 0, 1, [], h3, rfl, Own.nil _ _ _ _, .inr ⟨rfl, h2, rfl⟩⟩
theorem rbuildP_bd {w w' : World} {l : List Po} {en : Ending} (h : RBuildQ w l en w') :
    Fr No w w' ∧ ∃ (A : Option Addr) (m c : Nat) (e : Int) (bs : List UInt8), en = .returned (.tuple #[.slice A m c, .int .i64 e]) ∧ bs.length = m ∧ Own w' w.heap.size 5 1 (.slice A m c) m (by8 bs) ∧ bdP l e bs := by
  obtain ⟨h1, (⟨h2, v, m, h3, h4, h5⟩ | ⟨h2, h3⟩)⟩ := h
  · obtain ⟨A, c, rfl, _⟩ := h5.form
    exact ⟨h1, A, m, c, 0, buildP l, h4, h3.symm, h5, .inl ⟨rfl, h2, rfl⟩⟩
  · exact ⟨h1, none, 0, 0, 1, [], h3, rfl, Own.nil _ _ _ _, .inr ⟨rfl, h2, rfl⟩⟩

set_option maxRecDepth 100000 in
set_option maxHeartbeats 4000000 in
theorem pobuild_any (A0 : Option Addr) (n0 c0 : Nat) (l : List Po) (w : World)
    (h0 : l.length = n0) (x0 : n0 ≤ c0) (y0 : c0 ≤ maxLen) (z0 : n0 * 32 ≤ 140737488351232) (r0 : RdPo w w.heap.size A0 l) (i0 : InI2 l) (s0 : ∀ e ∈ l, (e.2.length + 1) * 8 ≤ 140737488355328) :
    Calls Try.prog 3 #[.slice A0 n0 c0] w (RetB true w) := by
  by_cases g0 : 200 < n0
  · have d1 : decide ((200 : Int) < (n0 : Int)) = true := decide_eq_true (by omega)
    have d1b : decide (200 < n0) = true := decide_eq_true g0
    clear y0 r0 h0 i0 s0
    go_enter Try.func3, Try.ntmps3
    go_wp2_with (go_at_call 9; refine (awake10_any _).mono ?_; rintro en w4 ⟨rfl, hfr⟩; have HF4 := hide hfr; clear hfr)
    go_ret
    exact ⟨rfl, HF4.out⟩
  have d1 : decide ((200 : Int) < (n0 : Int)) = false := decide_eq_false (by omega)
  have d1b : decide (200 < n0) = false := decide_eq_false g0
  have HL := hide h0
  have HR0 := hide r0
  have HLn := hide (lentPo_any A0 n0 c0 w.heap.size l w h0 x0 y0 (by omega) s0 (Nat.le_refl _) r0)
  have HIn := hide (And.intro i0 (show ∀ x ∈ l, x.2.length ≤ 140737488351232 from fun x hx => by have := s0 x hx; omega))
  have HC := hide (And.intro x0 y0)
  have HPn := hide (fun W (hW : Fr No w W) => plainPo_any A0 n0 c0 w.heap.size l W h0 x0 y0 (by omega) hW.size (r0.fr0 hW))
  clear y0 r0 h0 i0 s0 z0
  go_enter Try.func3, Try.ntmps3
  go_wp2_with (fail)
  refine HLn.out.mono ?_
  rintro en w1 ⟨A2, c2, rfl, hob, hfr⟩
  have HO1 := hide hob
  have HF1 := hide hfr
  have HBt := hide (fun W (hW : Fr No w1 W) => pbuild_any A2 n0 c2 W.heap.size l W HL.out (by have h := (hob.fr0 hW).rd; rw [HL.out] at h; exact Nat.le_of_succ_le h.2.1) (hob.fr0 hW).rd.2.2 (Nat.le_refl _) (hob.fr0 hW).rd.1 HIn.out.1 HIn.out.2)
  clear hob hfr HLn
  go_wp2_with (fail)
  refine (HBt.out w1 (Fr.refl _ _)).mono ?_
  rintro en w3 hbp
  obtain ⟨hfr, A4, m, e, bs, rfl, hbl, hob, hbd⟩ := pbuild_bd hbp
  have HF13 := hide hfr
  have HO3 := hide hob
  have HBd := hide hbd
  have HBl := hide hbl
  clear hbp hfr hob hbd hbl
  go_wp2_with (fail)
  refine (HBt.out w3 HF13.out).mono ?_
  rintro en w4 hbp
  obtain ⟨hfr, A5, m', e', bs', rfl, hbl, hob, hbd⟩ := pbuild_bd hbp
  obtain ⟨rfl, rfl⟩ := bdP_inj HBd.out hbd
  obtain rfl : m' = m := by rw [← hbl, HBl.out]
  have HF34 := hide hfr
  have HO4 := hide hob
  clear hbp hfr hob hbd hbl HBt
  go_wp2_with (fail)
  refine (HPn.out w4 ((HF1.out.tr HF13.out).tr HF34.out)).mono ?_
  rintro en w5 ⟨A7, c7, rfl, j1, j2, hrd, hfr⟩
  have HF45 := hide hfr
  have HBr := hide (refBuildP_any A7 n0 c7 w5.heap.size l w5 HL.out j1 j2 (Nat.le_refl _) hrd HIn.out.2)
  clear hfr hrd HPn j1 j2
  go_wp2_with (fail)
  refine HBr.out.mono ?_
  rintro en w6 hbp
  obtain ⟨hfr, A6, m3, c6, e3, bs3, rfl, hbl, hob, hbd⟩ := rbuildP_bd hbp
  obtain ⟨rfl, rfl⟩ := bdP_inj hbd HBd.out
  obtain rfl : m' = m3 := by rw [← hbl, HBl.out]
  have HF46 := hide (HF45.out.tr hfr)
  have HO6 := hide hob
  have HX6 := hide ((HO3.out.fr0 (HF34.out.tr HF46.out)))
  have HY6 := hide (HO4.out.fr0 HF46.out)
  have HX4l : Hid (∀ k, (Value.slice A4 m' m').ownBlock = some k → w1.heap.size ≤ k ∧ k < w3.heap.size) := hide (fun k h => HO3.out.lt k h)
  have HYl : Hid (∀ k, (Value.slice A5 m' m').ownBlock = some k → w3.heap.size ≤ k) := hide (fun k h => (HO4.out.lt k h).1)
  have HI6 := hide (HO1.out.fr0 (HF13.out.tr (HF34.out.tr HF46.out)))
  have HF6 := hide (HF1.out.tr (HF13.out.tr (HF34.out.tr HF46.out)))
  have HC6 := hide hob.le.2
  have hmb : m' ≤ 20000000000 := by rw [← HBl.out]; exact bdP_le HBd.out
  clear hbp hfr hob hbd hbl HBr HO3 HO4 HO1 HF45 HF46
  have HKb := hide (fun W A (hW : Fr No w6 W) (ho : Own W 0 5 1 (.slice A m' m') m' (by8 bs')) => kbytes_any A A6 m' m' m' c6 W.heap.size W.heap.size bs' bs' W HBl.out HBl.out (Nat.le_refl _) (by unfold maxLen; omega) HC6.out.1 HC6.out.2 ho.rd (HO6.out.fr0 hW).rd)
  rw [decide_eq_true rfl] at HKb
  have HKs := hide (fun W (hW : Fr No w6 W) => keptPo_any A2 A0 n0 c2 n0 c0 w.heap.size w.heap.size l W HL.out HL.out HC.out.1 HC.out.2 (HI6.out.fr0 hW) (HR0.out.fr0 (HF6.out.tr hW)))
  have d3 : (e' != e') = false := by simp
  have d4 : (e' == e') = true := by simp
  have HXb := hide (HX6.out.lower (Nat.zero_le _))
  have HYb := hide (HY6.out.lower (Nat.zero_le _))
  have HD45 : Hid (∀ k, (Value.slice A4 m' m').ownBlock = some k → (Value.slice A5 m' m').ownBlock ≠ some k) := hide (fun k h1 h2 => by have a1 := (HX4l.out k h1).2; have a2 := HYl.out k h2; omega)
  clear HX6 HY6
  go_wp2_with (fail)
  refine (HKb.out w6 A4 (Fr.refl _ _) HXb.out).mono ?_
  rintro en w7 ⟨rfl, nq1, rfl⟩
  have HF7 : Hid (Fr No w6 (w6.drewN nq1)) := hide ((Fr.refl No w6).drewN nq1)
  generalize w6.drewN nq1 = w7 at HF7 ⊢
  go_wp2_with (fail)
  refine (HKb.out w7 A5 HF7.out (HYb.out.fr0 HF7.out)).mono ?_
  rintro en w8 ⟨rfl, nq2, rfl⟩
  have HF8 : Hid (Fr No w6 (w7.drewN nq2)) := hide (HF7.out.drewN nq2)
  generalize w7.drewN nq2 = w8 at HF8 ⊢
  clear HF7 w7
  go_wp2_with (fail)
  refine (HKs.out w8 HF8.out).mono ?_
  rintro en w9 ⟨rfl, nq3, rfl⟩
  have HF9 : Hid (Fr No w6 (w8.drewN nq3)) := hide (HF8.out.drewN nq3)
  generalize w8.drewN nq3 = w9 at HF9 ⊢
  clear HF8 w8 HKb HKs
  have HAp := hide (apart8_two w9.heap.size A4 A5 m' m' m' m' _ _ (w9.alloc (.cells #[.slice A4 m' m', .slice A5 m' m'] 25)) (by omega) (by omega) (heap_alloc_new w9 _) (HXb.out.fr0 (HF9.out.alloc _)) (HYb.out.fr0 (HF9.out.alloc _)) HD45.out)
  go_wp2_with (fail)
  refine HAp.out.mono ?_
  rintro en w10 ⟨rfl, hfr⟩
  have HFa : Hid (Fr (fun k => (Value.slice A4 m' m').ownBlock = some k ∨ (Value.slice A5 m' m').ownBlock = some k) w6 w10) := hide (((HF9.out.alloc _).any _).ts hfr)
  have HF10 : Hid (Fr No w w10) := hide (HF6.out.trans HFa.out (fun k hk h2 => by
    rcases h2 with h2 | h2
    · have a1 := (HX4l.out k h2).1; have := HF1.out.size; omega
    · have a1 := HYl.out k h2; have := HF1.out.size; have := HF13.out.size; omega))
  clear hfr HAp HFa HXb HYb HD45 HI6 HF9
  go_wp2_with (fail)
  refine (awake10_any w10).mono ?_
  rintro en w11 ⟨rfl, hfr⟩
  have HF11 := hide (HF10.out.tr hfr)
  clear hfr
  go_wp2_with (fail)
  go_ret
  exact ⟨by simp, HF11.out⟩
end Go.Proofs.Ythlbfnoahdjdeaa
