/- TermsBuilds, walked. -/
import Derived.Test.YtcdhbdhhknlbaaaK12
import Derived.Test.YtcdhbdhhknlbaaaSame9Z
namespace Go.Proofs.Ytcdhbdhhknlbaaa
set_option linter.unusedVariables false
set_option linter.unusedSimpArgs false
open Go.RowKit

theorem svs_tk (l : List Tx) (n : Nat) : svs (l.take n) = (svs l).take n := by simp [svs, List.map_take]
/-- what Build answers: a number, bytes. -/
def bdE (l : List Tx) (at_ : List Nat) (e : Int) (bs : List UInt8) : Prop := (e = 0 ∧ termsOk l at_ ∧ bs = dictB l at_) ∨ (e = 1 ∧ ¬ termsOk l at_ ∧ bs = [])
theorem bdE_inj {l : List Tx} {at_ : List Nat} {e e' : Int} {bs bs' : List UInt8} (h : bdE l at_ e bs) (h' : bdE l at_ e' bs') : e' = e ∧ bs' = bs := by
  rcases h with ⟨h1, h2, h3⟩ | ⟨h1, h2, h3⟩ <;> rcases h' with ⟨k1, k2, k3⟩ | ⟨k1, k2, k3⟩
  · exact ⟨by rw [h1, k1], by rw [h3, k3]⟩
  · exact absurd h2 k2
  · exact absurd k2 h2
  · exact ⟨by rw [h1, k1], by rw [h3, k3]⟩
theorem tbuild_bd {w w' : World} {l : List Tx} {at_ : List Nat} {en : Ending} (h : BuildP w l at_ en w') :
    Fr No w w' ∧ ∃ (A : Option Addr) (m : Nat) (e : Int) (bs : List UInt8), en = .returned (.tuple #[.slice A m m, .int .i64 e]) ∧ bs.length = m ∧ Own w' w.heap.size 5 1 (.slice A m m) m (by8 bs) ∧ bdE l at_ e bs := by
  obtain ⟨h1, (⟨h2, A, m, h3, h4, h5⟩ | ⟨h2, h3⟩)⟩ := h
  · exact ⟨h1, A, m, 0, dictB l at_, h4, h3.symm, h5, .inl ⟨rfl, h2, rfl⟩⟩
  · exact ⟨h1, none, 0, 1, [], h3, rfl, Own.nil _ _ _ _, .inr ⟨rfl, h2, rfl⟩⟩
theorem rbuild_bd {w w' : World} {l : List Tx} {at_ : List Nat} {en : Ending} (h : RBuildP w l at_ en w') :
    Fr No w w' ∧ ∃ (A : Option Addr) (m c : Nat) (e : Int) (bs : List UInt8), en = .returned (.tuple #[.slice A m c, .int .i64 e]) ∧ bs.length = m ∧ Own w' w.heap.size 5 1 (.slice A m c) m (by8 bs) ∧ bdE l at_ e bs := by
  obtain ⟨h1, (⟨h2, v, m, h3, h4, h5⟩ | ⟨h2, h3⟩)⟩ := h
  · obtain ⟨A, c, rfl, _⟩ := h5.form
    exact ⟨h1, A, m, c, 0, dictB l at_, h4, h3.symm, h5, .inl ⟨rfl, h2, rfl⟩⟩
  · exact ⟨h1, none, 0, 0, 1, [], h3, rfl, Own.nil _ _ _ _, .inr ⟨rfl, h2, rfl⟩⟩

set_option maxRecDepth 100000 in
set_option maxHeartbeats 4000000 in
theorem tbuilds_any (A0 A1 : Option Addr) (n0 c0 n1 c1 : Nat) (l : List Tx) (at_ : List Nat) (X Y : ByteArray) (w : World)
    (h0 : l.length = n0) (x0 : n0 ≤ c0) (y0 : c0 ≤ maxLen) (z0 : c0 * 16 ≤ 140737488351232) (r0 : Rd w w.heap.size A0 (svs l)) (t0 : ∀ t ∈ l, t.length ≤ maxLen)
    (h1 : at_.length = n1) (x1 : n1 ≤ c1) (y1 : c1 ≤ maxLen) (z1 : c1 * 8 ≤ 140737488351232) (r1 : Rd w w.heap.size A1 (un at_)) (u1 : U64s at_) (hX : X.size ≤ maxLen) (hY : Y.size ≤ maxLen) :
    Calls Try.prog 5 #[.slice A0 n0 c0, .slice A1 n1 c1, .string X, .string Y] w (RetB true w) := by
  by_cases g0 : 300 < n0
  · have d1 : decide ((300 : Int) < (n0 : Int)) = true := decide_eq_true (by omega)
    have d1b : decide (300 < n0) = true := decide_eq_true g0
    clear y0 r0 hX hY h0 y1 r1 t0 u1
    go_enter Try.func5, Try.ntmps5
    go_wp2_with (go_at_call 10; refine (awake_any _).mono ?_; rintro en w4 ⟨rfl, hfr⟩; have HF4 := hide hfr; clear hfr)
    go_ret
    exact ⟨rfl, HF4.out⟩
  have d1 : decide ((300 : Int) < (n0 : Int)) = false := decide_eq_false (by omega)
  have d1b : decide (300 < n0) = false := decide_eq_false g0
  have HL := hide h0
  have HL1 := hide h1
  have HR0 := hide r0
  have HR1 := hide r1
  have HT0 := hide t0
  have HU := hide u1
  have HLn := hide (lentS_any A0 n0 c0 w.heap.size l w h0 (by omega) r0)
  have HLu := hide (fun W (hW : Fr No w W) => lentU64_any A1 n1 c1 w.heap.size (at_.map Int.ofNat) W (by rw [List.length_map]; exact h1) (by omega) (by rw [← un_iz]; exact r1.fr0 hW))
  have HXY := hide (And.intro hX hY)
  have HC := hide (And.intro (And.intro x0 y0) (And.intro x1 y1))
  have HZ := hide (And.intro z0 z1)
  clear y0 r0 hX hY h0 y1 r1 t0 u1 z0 z1 h1
  go_enter Try.func5, Try.ntmps5
  go_wp2_with (fail)
  refine HLn.out.mono ?_
  rintro en w1 ⟨A2, c2, rfl, hob, hfr⟩
  have hle := hob.le
  rw [HL.out] at hob hle ⊢
  have HO1 := hide hob
  have HF1 := hide hfr
  have HC2 := hide hle.2
  clear hob hfr hle HLn
  go_wp2_with (fail)
  refine (HLu.out w1 HF1.out).mono ?_
  rintro en w2 ⟨A3, c3, rfl, hob, hfr⟩
  have hle := hob.le
  rw [List.length_map, HL1.out] at hob hle ⊢
  have HP2 := hide hob
  have HO2 := hide (HO1.out.fr0 hfr)
  have HF2 := hide (HF1.out.tr hfr)
  have HC3 := hide hle.2
  have HBt := hide (fun W (hW : Fr No w2 W) => tbuild_any A2 A3 n0 n1 c2 c3 W.heap.size l at_ W HL.out (by have := HC2.out.1; omega) HC2.out.2 HL1.out (by have := HC3.out.1; omega) HC3.out.2 (Nat.le_refl _) (by
    have h := (HO2.out.fr0 hW).rd.tk l.length
    rw [← svs_tk, List.take_left] at h
    exact h) (by
    have h := (hob.fr0 hW).rd.tk at_.length
    rw [un_iz]
    rw [← iz_take, List.take_left' (by rw [List.length_map])] at h
    exact h) HT0.out HU.out)
  clear hob hfr hle HLu HO1 HF1
  go_wp2_with (fail)
  refine (HBt.out w2 (Fr.refl _ _)).mono ?_
  rintro en w3 hbp
  obtain ⟨hfr, A4, m, e, bs, rfl, hbl, hob, hbd⟩ := tbuild_bd hbp
  have HF23 := hide hfr
  have HO3 := hide hob
  have HBd := hide hbd
  have HBl := hide hbl
  clear hbp hfr hob hbd hbl
  go_wp2_with (fail)
  refine (HBt.out w3 HF23.out).mono ?_
  rintro en w4 hbp
  obtain ⟨hfr, A5, m', e', bs', rfl, hbl, hob, hbd⟩ := tbuild_bd hbp
  obtain ⟨rfl, rfl⟩ := bdE_inj HBd.out hbd
  obtain rfl : m' = m := by rw [← hbl, HBl.out]
  have HF34 := hide hfr
  have HO4 := hide hob
  have HO3b := hide (HO3.out.fr0 hfr)
  clear hbp hfr hob hbd hbl
  have HBr := hide (rbuild_any A0 A1 n0 n1 c0 c1 w.heap.size l at_ w4 HL.out HC.out.1.1 HC.out.1.2 HL1.out HC.out.2.1 HC.out.2.2 ((HF2.out.tr HF23.out).tr HF34.out).size (HR0.out.fr0 ((HF2.out.tr HF23.out).tr HF34.out)) (HR1.out.fr0 ((HF2.out.tr HF23.out).tr HF34.out)) HT0.out HU.out)
  go_wp2_with (fail)
  refine HBr.out.mono ?_
  rintro en w5 hbp
  obtain ⟨hfr, A6, m3, c6, e3, bs3, rfl, hbl, hob, hbd⟩ := rbuild_bd hbp
  obtain ⟨rfl, rfl⟩ := bdE_inj hbd HBd.out
  obtain rfl : m' = m3 := by rw [← hbl, HBl.out]
  have HF45 := hide hfr
  have HXl := hide (HO3.out.lt)
  have HX4l : Hid (∀ k, (Value.slice A4 m' m').ownBlock = some k → k < w3.heap.size) := hide (fun k h => (HO3.out.lt k h).2)
  have HYl := hide (HO4.out.lt)
  have HY5l : Hid (∀ k, (Value.slice A5 m' m').ownBlock = some k → k < w4.heap.size) := hide (fun k h => (HO4.out.lt k h).2)
  have HO6 := hide hob
  have HX5 := hide (HO3b.out.fr0 hfr)
  have HY5 := hide (HO4.out.fr0 hfr)
  have HF5 := hide (((HF2.out.tr HF23.out).tr HF34.out).tr hfr)
  have HI5 := hide (HO2.out.fr0 ((HF23.out.tr HF34.out).tr hfr))
  have HV5 := hide (HP2.out.fr0 ((HF23.out.tr HF34.out).tr hfr))
  have HC6 := hide hob.le.2
  have hmb : m' ≤ 5000000 := by
    rw [← HBl.out]
    rcases HBd.out with ⟨_, h1, h2⟩ | ⟨_, _, h2⟩
    · rw [h2]
      have h3 := dictB_le (at_ := at_) h1.2.2.1
      have h4 := HL.out
      omega
    · rw [h2]; simp
  clear hbp hfr hob hbd hbl HBr HBt HO3 HO3b HO4 HO2 HP2
  have HKb := hide (fun W A (hW : Fr No w5 W) (ho : Own W 0 5 1 (.slice A m' m') m' (by8 bs')) => kbytes_any A A6 m' m' m' c6 W.heap.size W.heap.size bs' bs' W HBl.out HBl.out (Nat.le_refl _) (by unfold maxLen; omega) HC6.out.1 HC6.out.2 ho.rd (HO6.out.fr0 hW).rd)
  rw [decide_eq_true rfl] at HKb
  have HKs := hide (fun W (hW : Fr No w5 W) => keptS_any A2 A0 n0 c2 n0 c0 W.heap.size w.heap.size l W HL.out HL.out HC2.out.1 HC2.out.2 HC.out.1.1 HC.out.1.2 (HI5.out.fr0 hW).rd (HR0.out.fr0 (HF5.out.tr hW)))
  have HKu := hide (fun W (hW : Fr No w5 W) => keptU64_any A3 A1 n1 c3 n1 c1 W.heap.size w.heap.size (at_.map Int.ofNat) W (by rw [List.length_map]; exact HL1.out) (by rw [List.length_map]; exact HL1.out) HC3.out.1 HC3.out.2 HC.out.2.1 HC.out.2.2 (HV5.out.fr0 hW).rd (by rw [← un_iz]; exact HR1.out.fr0 (HF5.out.tr hW)))
  have d3 : (e' != e') = false := by simp
  have HXb := hide (HX5.out.lower (Nat.zero_le _))
  have HYb := hide (HY5.out.lower (Nat.zero_le _))
  have HD45 : Hid (∀ k, (Value.slice A4 m' m').ownBlock = some k → (Value.slice A5 m' m').ownBlock ≠ some k) := hide (fun k h1 h2 => by have a1 := HX4l.out k h1; have a2 := (HY5.out.lt k h2).1; omega)
  have HD46 : Hid (∀ k, (Value.slice A4 m' m').ownBlock = some k → (Value.slice A6 m' c6).ownBlock ≠ some k) := hide (fun k h1 h2 => by have a1 := HX4l.out k h1; have a2 := (HO6.out.lt k h2).1; have a3 := HF34.out.size; omega)
  have HD56 : Hid (∀ k, (Value.slice A5 m' m').ownBlock = some k → (Value.slice A6 m' c6).ownBlock ≠ some k) := hide (fun k h1 h2 => by have a1 := HY5l.out k h1; have a2 := (HO6.out.lt k h2).1; omega)
  clear HX5 HY5
  go_wp2_with (fail)
  refine (HKb.out w5 A4 (Fr.refl _ _) HXb.out).mono ?_
  rintro en w6 ⟨rfl, nq1, rfl⟩
  have HF6 : Hid (Fr No w5 (w5.drewN nq1)) := hide ((Fr.refl No w5).drewN nq1)
  generalize w5.drewN nq1 = w6 at HF6 ⊢
  go_wp2_with (fail)
  refine (HKb.out w6 A5 HF6.out (HYb.out.fr0 HF6.out)).mono ?_
  rintro en w7 ⟨rfl, nq2, rfl⟩
  have HF7 : Hid (Fr No w5 (w6.drewN nq2)) := hide (HF6.out.drewN nq2)
  generalize w6.drewN nq2 = w7 at HF7 ⊢
  clear HF6 w6
  go_wp2_with (fail)
  refine (HKs.out w7 HF7.out).mono ?_
  rintro en w8 ⟨rfl, nq3, rfl⟩
  have HF8 : Hid (Fr No w5 (w7.drewN nq3)) := hide (HF7.out.drewN nq3)
  generalize w7.drewN nq3 = w8 at HF8 ⊢
  clear HF7 w7
  go_wp2_with (fail)
  refine (HKu.out w8 HF8.out).mono ?_
  rintro en w9 ⟨rfl, nq4, rfl⟩
  have HF9 : Hid (Fr No w5 (w8.drewN nq4)) := hide (HF8.out.drewN nq4)
  generalize w8.drewN nq4 = w9 at HF9 ⊢
  clear HF8 w8 HKb HKs HKu
  have HAp := hide (apart8_two w9.heap.size A4 A5 m' m' m' m' _ _ (w9.alloc (.cells #[.slice A4 m' m', .slice A5 m' m'] 24)) (by omega) (by omega) (heap_alloc_new w9 _) (HXb.out.fr0 (HF9.out.alloc _)) (HYb.out.fr0 (HF9.out.alloc _)) HD45.out)
  go_wp2_with (fail)
  refine HAp.out.mono ?_
  rintro en w10 ⟨rfl, hfr⟩
  have HFa : Hid (Fr (fun k => (Value.slice A4 m' m').ownBlock = some k ∨ (Value.slice A5 m' m').ownBlock = some k) w5 w10) := hide (((HF9.out.alloc _).any _).ts hfr)
  have HO10 := hide (HO6.out.fr HFa.out (fun k h1 h2 => by
    rcases h2 with h2 | h2
    · exact HD46.out k h2 h1
    · exact HD56.out k h2 h1))
  have HF10 : Hid (Fr No w w10) := hide (HF5.out.trans HFa.out (fun k hk h2 => by
    rcases h2 with h2 | h2
    · have a1 := (HXl.out k h2).1; have := HF2.out.size; omega
    · have a1 := (HYl.out k h2).1; have := HF2.out.size; have := HF23.out.size; omega))
  clear hfr HAp HFa HXb HYb HD45 HD46 HD56 HI5 HV5 HF9
  rcases HBd.out with ⟨rfl, hok, hbs⟩ | ⟨rfl, _, _⟩
  rotate_left
  · go_wp2_with (go_at_call 10; refine (awake_any _).mono ?_; rintro en w11 ⟨rfl, hfr⟩; have HF11 := hide (HF10.out.tr hfr); clear hfr)
    go_ret
    exact ⟨rfl, HF11.out⟩
  have HFo : Hid (Form9 bs' l at_) := hide ⟨hok, HU.out, hbs.symm⟩
  have HAl : Hid (l.length = at_.length) := hide hok.2.1
  clear hok hbs HBd
  have HLb := hide (lent8_any A6 m' c6 w10.heap.size bs' w10 HBl.out (by omega) HO10.out.rd)
  go_wp2_with (fail)
  refine HLb.out.mono ?_
  rintro en w11 ⟨A7, c7, rfl, hob, hfr⟩
  have hle := hob.le
  rw [HBl.out] at hob hle ⊢
  have HO7 := hide hob
  have HC7 := hide hle.2
  have HF11 := hide (HF10.out.tr hfr)
  have HW11 := hide (HO10.out.fr0 hfr)
  have HS11 := hide hfr.size
  have hr7 : Rd w11 w11.heap.size A7 (by8 bs') := by
    have h := hob.rd.tk bs'.length
    rw [← by8_take, List.take_left] at h
    exact h
  have HOp := hide (topen_any A7 m' c7 w11.heap.size bs' w11 HBl.out (by omega) hle.2.2 (by omega) (Nat.le_refl _) hr7)
  clear hob hfr hle hr7 HLb HO10
  go_wp2_with (fail)
  refine HOp.out.mono ?_
  rintro en w12 ⟨hfr, (⟨G, l', at', hfo, rfl, hdm⟩ | ⟨hno, _⟩)⟩
  rotate_left
  · exact absurd HFo.out (hno _ _)
  obtain ⟨rfl, rfl⟩ := form9_inj HFo.out hfo
  have HF12 := hide (HF11.out.tr hfr)
  have HO12 := hide (HO7.out.fr0 hfr)
  have HW12 := hide (HW11.out.fr0 hfr)
  have HS12 := hide hfr.size
  have HDp : Hid (DictP w12 w11.heap.size (some ⟨G, 0, none⟩) l at_) := hide ⟨.inr ⟨G, rfl, hdm⟩⟩
  have HBo := hide HO7.out.lt
  have HRo := hide (ropen_any A6 m' c6 bs' w12 HBl.out HC6.out.1 HC6.out.2 (by omega) HW12.out.rd)
  clear hfr hfo hdm HOp HO7 HW11
  go_wp2_with (fail)
  refine HRo.out.mono ?_
  rintro en w13 ⟨hfr, (⟨G2, l', at', hf2, rfl, hrd⟩ | ⟨hno, _⟩)⟩
  rotate_left
  · exact absurd HFo.out (hno _ _)
  obtain ⟨rfl, rfl⟩ := form9_inj HFo.out hf2
  have HF13 := hide (HF12.out.tr hfr)
  have HO13 := hide (HO12.out.fr0 hfr)
  have HW13 := hide (HW12.out.fr0 hfr)
  have HDp13 := hide (HDp.out.fr0 hfr)
  have HRp : Hid (RefP w13 w12.heap.size (some ⟨G2, 0, none⟩) l at_) := hide ⟨.inr ⟨G2, rfl, hrd⟩⟩
  have HKe := hide (kept8_any A7 A6 m' c7 m' c6 w13.heap.size w13.heap.size bs' w13 HBl.out HBl.out HC7.out.1 HC7.out.2 HC6.out.1 HC6.out.2 HO13.out.rd HW13.out.rd)
  clear hfr hf2 hrd HRo HF12 HO12 HW12 HDp
  go_wp2_with (fail)
  refine HKe.out.mono ?_
  rintro en w14 ⟨rfl, nq5, rfl⟩
  have HF14 : Hid (Fr No w13 (w13.drewN nq5)) := hide ((Fr.refl No w13).drewN nq5)
  generalize w13.drewN nq5 = w14 at HF14 ⊢
  have HO14 := hide (HO13.out.fr0 HF14.out)
  have HFw14 := hide (HF13.out.tr HF14.out)
  have HDp14 := hide (HDp13.out.fr0 HF14.out)
  have HRp14 := hide (HRp.out.fr0 HF14.out)
  have HLo : Hid ((by8 (bs' ++ [201])).length = m' + 1) := hide (by rw [by8_length, List.length_append, HBl.out]; rfl)
  clear HKe HO13 HW13 HDp13 HRp HF14 HF13
  go_wp2_with (fail)
  go_loopw [22] (fun ix wr => ∃ (q : Nat) (Z : List Value), q ≤ m' ∧ ix = .int .i64 q ∧ Hid (∀ j, q ≤ j → Z[j]? = (by8 (bs' ++ [201]))[j]?) ∧ Hid (Own wr w10.heap.size 5 1 (.slice A7 (m' + 1) c7) (m' + 1) Z) ∧ Hid (Fr (fun k => (Value.slice A7 (m' + 1) c7).ownBlock = some k) w14 wr)) (fun ix _ => m' - (intOf ix).toNat)
  case atStart => exact ⟨0, _, by omega, rfl, hide (fun j _ => rfl), HO14, hide (Fr.refl _ _)⟩
  case round =>
    obtain ⟨wo, rfl⟩ : ∃ wo : World, wo = wr := ⟨_, rfl⟩
    obtain ⟨q, Z, hq, rfl, HZ, HOq, HFq⟩ := hrel
    by_cases hlt : q < m'
    · have hcv : Z[q]? = some (.int .u8 (((bs' ++ [201]).getD q 0).toNat : Nat)) := by
        rw [HZ.out q (Nat.le_refl _)]
        exact by8_get _ q (by rw [List.length_append, HBl.out]; exact Nat.lt_succ_of_lt hlt)
      obtain ⟨gI, rfl, _, _, hcell, hfz, hst⟩ := HOq.out.store (k := q) (by omega)
      obtain ⟨x, hx⟩ : ∃ x : Nat, ((bs' ++ [201]).getD q 0).toNat = x := ⟨_, rfl⟩
      rw [hcv, hx] at hcell
      have HST := hide hst
      have HFn : Hid (∀ v, Fr (fun k => (Value.slice (some ⟨gI, 0, none⟩) (m' + 1) c7).ownBlock = some k) w14 (wo.setCell ⟨gI, q, none⟩ v)) := hide (fun v => HFq.out.setCell (p := ⟨gI, q, none⟩) (fun _ => rfl) v)
      have hqI : (q : Int) < (m' : Int) := by omega
      have q0 : (0 : Int) ≤ (q : Int) := by omega
      clear hst hx hcv
      go_wp2_with (fail)
      go_roundw
      case rel => exact ⟨q + 1, _, by omega, by go_num, hide (fun j hj => by rw [List.getElem?_set_ne (by omega)]; exact HZ.out j (by omega)), hide (HST.out _), hide (HFn.out _)⟩
      case measure => simp [intOf]; omega
    · have hS : ∀ k, (Value.slice A7 (m' + 1) c7).ownBlock = some k → k < w11.heap.size := fun k hk => (HBo.out k hk).2
      have d9 : decide ((q : Int) < (m' : Int)) = false := decide_eq_false (by omega)
      have d9b : decide (q < m') = false := decide_eq_false hlt
      have HDq := hide (HDp14.out.above HFq.out hS)
      have HRq := hide (HRp14.out.above HFq.out (fun k hk => Nat.lt_of_lt_of_le (hS k hk) HS12.out))
      have HFw : Hid (Fr No w wo) := hide (HFw14.out.trans HFq.out (fun k hk h2 => by have a1 := (HBo.out k h2).1; have := HF10.out.size; omega))
      have HSm := hide (same9_any _ _ _ _ _ _ X Y wo HDq.out HRq.out HAl.out HXY.out.1 HXY.out.2)
      clear hS hlt
      go_wp2_with (first
        | (go_at_call 28; refine HSm.out.mono ?_; rintro en w15 ⟨rfl, hfr⟩; have HF15 := hide (HFw.out.tr hfr); clear hfr)
        | (go_at_call 10; refine (awake_any _).mono ?_; rintro en w16 ⟨rfl, hfr⟩; have HF16 := hide (HF15.out.tr hfr); clear hfr)
        | fail)
      go_ret
      exact ⟨by simp, HF16.out⟩
end Go.Proofs.Ytcdhbdhhknlbaaa
