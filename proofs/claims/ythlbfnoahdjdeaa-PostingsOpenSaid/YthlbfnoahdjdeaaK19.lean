/- Several texts in one: PoBdW, PoLen, PoBkW. -/
import Derived.Test.YthlbfnoahdjdeaaK18
namespace Go.Proofs.Ythlbfnoahdjdeaa
set_option linter.unusedVariables false
set_option linter.unusedSimpArgs false
open Go.RowKit

/-- what Build answers: a number, bytes. -/
def bdP (l : List Po) (e : Int) (bs : List UInt8) : Prop := (e = 0 ∧ rightP l ∧ bs = buildP l) ∨ (e = 1 ∧ ¬ rightP l ∧ bs = [])
theorem bdP_inj {l : List Po} {e e' : Int} {bs bs' : List UInt8} (h : bdP l e bs) (h' : bdP l e' bs') : e' = e ∧ bs' = bs := by
  rcases h with ⟨h1, h2, h3⟩ | ⟨h1, h2, h3⟩ <;> rcases h' with ⟨k1, k2, k3⟩ | ⟨k1, k2, k3⟩
  · exact ⟨by rw [h1, k1], by rw [h3, k3]⟩
  · exact absurd h2 k2
  · exact absurd k2 h2
  · exact ⟨by rw [h1, k1], by rw [h3, k3]⟩
theorem buildP_le {l : List Po} (h : rightP l) : (buildP l).length ≤ 20000000000 := by
  have h1 := bodP_le h (nbP l.length)
  have h2 := right_16 h
  have h3 := (enc_len l.length).2
  rw [buildP, List.length_append]
  have h4 : nbP l.length ≤ 2048 := by unfold nbP; omega
  omega
theorem bdP_le {l : List Po} {e : Int} {bs : List UInt8} (h : bdP l e bs) : bs.length ≤ 20000000000 := by
  rcases h with ⟨_, h2, h3⟩ | ⟨_, _, h3⟩
  · rw [h3]; exact buildP_le h2
  · rw [h3]; simp
theorem pbuild_bd {w w' : World} {l : List Po} {en : Ending} (h : BuildQ w l en w') :
    Fr No w w' ∧ ∃ (A : Option Addr) (m : Nat) (e : Int) (bs : List UInt8), en = .returned (.tuple #[.slice A m m, .int .i64 e]) ∧ bs.length = m ∧ Own w' w.heap.size 5 1 (.slice A m m) m (by8 bs) ∧ bdP l e bs := by
  obtain ⟨h1, (⟨h2, A, m, h3, h4, h5⟩ | ⟨h2, h3⟩)⟩ := h
  · exact ⟨h1, A, m, 0, buildP l, h4, h3.symm, h5, .inl ⟨rfl, h2, rfl⟩⟩
  · exact ⟨h1, none, 0, 1, [], h3, rfl, Own.nil _ _ _ _, .inr ⟨rfl, h2, rfl⟩⟩
theorem rbuildP_bd {w w' : World} {l : List Po} {en : Ending} (h : RBuildQ w l en w') :
    Fr No w w' ∧ ∃ (A : Option Addr) (m c : Nat) (e : Int) (bs : List UInt8), en = .returned (.tuple #[.slice A m c, .int .i64 e]) ∧ bs.length = m ∧ Own w' w.heap.size 5 1 (.slice A m c) m (by8 bs) ∧ bdP l e bs := by
  obtain ⟨h1, (⟨h2, v, m, h3, h4, h5⟩ | ⟨h2, h3⟩)⟩ := h
  · obtain ⟨A, c, rfl, _⟩ := h5.form
    exact ⟨h1, A, m, c, 0, buildP l, h4, h3.symm, h5, .inl ⟨rfl, h2, rfl⟩⟩
  · exact ⟨h1, none, 0, 0, 1, [], h3, rfl, Own.nil _ _ _ _, .inr ⟨rfl, h2, rfl⟩⟩

set_option maxRecDepth 100000 in
set_option maxHeartbeats 4000000 in
theorem pobuild_any (A0 : Option Addr) (n0 c0 : Nat) (l : List Po) (w : World)
    (h0 : l.length = n0) (x0 : n0 ≤ c0) (y0 : c0 ≤ maxLen) (z0 : n0 * 32 ≤ 140737488351232) (r0 : RdPo w w.heap.size A0 l) (i0 : InI2 l) (s0 : ∀ e ∈ l, (e.2.length + 1) * 8 ≤ 140737488355328) :
    Calls Try.prog 3 #[.slice A0 n0 c0] w (RetB true w) := by
  by_cases g0 : 200 < n0
  · have d1 : decide ((200 : Int) < (n0 : Int)) = true := decide_eq_true (by omega)
    have d1b : decide (200 < n0) = true := decide_eq_true g0
    clear y0 r0 h0 i0 s0
    go_enter Try.func3, Try.ntmps3
    go_wp2_with (go_at_call 9; refine (awake10_any _).mono ?_; rintro en w4 ⟨rfl, hfr⟩; have HF4 := hide hfr; clear hfr)
    go_ret
    exact ⟨rfl, HF4.out⟩
  have d1 : decide ((200 : Int) < (n0 : Int)) = false := decide_eq_false (by omega)
  have d1b : decide (200 < n0) = false := decide_eq_false g0
  have HL := hide h0
  have HR0 := hide r0
  have HLn := hide (lentPo_any A0 n0 c0 w.heap.size l w h0 x0 y0 (by omega) s0 (Nat.le_refl _) r0)
  have HIn := hide (And.intro i0 (show ∀ x ∈ l, x.2.length ≤ 140737488351232 from fun x hx => by have := s0 x hx; omega))
  have HC := hide (And.intro x0 y0)
  have HPn := hide (fun W (hW : Fr No w W) => plainPo_any A0 n0 c0 w.heap.size l W h0 x0 y0 (by omega) hW.size (r0.fr0 hW))
  clear y0 r0 h0 i0 s0 z0
  go_enter Try.func3, Try.ntmps3
  go_wp2_with (fail)
  refine HLn.out.mono ?_
  rintro en w1 ⟨A2, c2, rfl, hob, hfr⟩
  have HO1 := hide hob
  have HF1 := hide hfr
  have HBt := hide (fun W (hW : Fr No w1 W) => pbuild_any A2 n0 c2 W.heap.size l W HL.out (by have h := (hob.fr0 hW).rd; rw [HL.out] at h; exact Nat.le_of_succ_le h.2.1) (hob.fr0 hW).rd.2.2 (Nat.le_refl _) (hob.fr0 hW).rd.1 HIn.out.1 HIn.out.2)
  clear hob hfr HLn
  go_wp2_with (fail)
  refine (HBt.out w1 (Fr.refl _ _)).mono ?_
  rintro en w3 hbp
  obtain ⟨hfr, A4, m, e, bs, rfl, hbl, hob, hbd⟩ := pbuild_bd hbp
  have HF13 := hide hfr
  have HO3 := hide hob
  have HBd := hide hbd
  have HBl := hide hbl
  clear hbp hfr hob hbd hbl
  go_wp2_with (fail)
  refine (HBt.out w3 HF13.out).mono ?_
  rintro en w4 hbp
  obtain ⟨hfr, A5, m', e', bs', rfl, hbl, hob, hbd⟩ := pbuild_bd hbp
  obtain ⟨rfl, rfl⟩ := bdP_inj HBd.out hbd
  obtain rfl : m' = m := by rw [← hbl, HBl.out]
  have HF34 := hide hfr
  have HO4 := hide hob
  clear hbp hfr hob hbd hbl HBt
  go_wp2_with (fail)
  refine (HPn.out w4 ((HF1.out.tr HF13.out).tr HF34.out)).mono ?_
  rintro en w5 ⟨A7, c7, rfl, j1, j2, hrd, hfr⟩
  have HF45 := hide hfr
  have HBr := hide (refBuildP_any A7 n0 c7 w5.heap.size l w5 HL.out j1 j2 (Nat.le_refl _) hrd HIn.out.2)
  clear hfr hrd HPn j1 j2
  go_wp2_with (fail)
  refine HBr.out.mono ?_
  rintro en w6 hbp
  obtain ⟨hfr, A6, m3, c6, e3, bs3, rfl, hbl, hob, hbd⟩ := rbuildP_bd hbp
  obtain ⟨rfl, rfl⟩ := bdP_inj hbd HBd.out
  obtain rfl : m' = m3 := by rw [← hbl, HBl.out]
  have HF46 := hide (HF45.out.tr hfr)
  have HO6 := hide hob
  have HX6 := hide ((HO3.out.fr0 (HF34.out.tr HF46.out)))
  have HY6 := hide (HO4.out.fr0 HF46.out)
  have HX4l : Hid (∀ k, (Value.slice A4 m' m').ownBlock = some k → w1.heap.size ≤ k ∧ k < w3.heap.size) := hide (fun k h => HO3.out.lt k h)
  have HYl : Hid (∀ k, (Value.slice A5 m' m').ownBlock = some k → w3.heap.size ≤ k) := hide (fun k h => (HO4.out.lt k h).1)
  have HI6 := hide (HO1.out.fr0 (HF13.out.tr (HF34.out.tr HF46.out)))
  have HF6 := hide (HF1.out.tr (HF13.out.tr (HF34.out.tr HF46.out)))
  have HC6 := hide hob.le.2
  have hmb : m' ≤ 20000000000 := by rw [← HBl.out]; exact bdP_le HBd.out
  clear hbp hfr hob hbd hbl HBr HO3 HO4 HO1 HF45 HF46
  have HKb := hide (fun W A (hW : Fr No w6 W) (ho : Own W 0 5 1 (.slice A m' m') m' (by8 bs')) => kbytes_any A A6 m' m' m' c6 W.heap.size W.heap.size bs' bs' W HBl.out HBl.out (Nat.le_refl _) (by unfold maxLen; omega) HC6.out.1 HC6.out.2 ho.rd (HO6.out.fr0 hW).rd)
  rw [decide_eq_true rfl] at HKb
  have HKs := hide (fun W (hW : Fr No w6 W) => keptPo_any A2 A0 n0 c2 n0 c0 w.heap.size w.heap.size l W HL.out HL.out HC.out.1 HC.out.2 (HI6.out.fr0 hW) (HR0.out.fr0 (HF6.out.tr hW)))
  have d3 : (e' != e') = false := by simp
  have d4 : (e' == e') = true := by simp
  have HXb := hide (HX6.out.lower (Nat.zero_le _))
  have HYb := hide (HY6.out.lower (Nat.zero_le _))
  have HD45 : Hid (∀ k, (Value.slice A4 m' m').ownBlock = some k → (Value.slice A5 m' m').ownBlock ≠ some k) := hide (fun k h1 h2 => by have a1 := (HX4l.out k h1).2; have a2 := HYl.out k h2; omega)
  clear HX6 HY6
  go_wp2_with (fail)
  refine (HKb.out w6 A4 (Fr.refl _ _) HXb.out).mono ?_
  rintro en w7 ⟨rfl, nq1, rfl⟩
  have HF7 : Hid (Fr No w6 (w6.drewN nq1)) := hide ((Fr.refl No w6).drewN nq1)
  generalize w6.drewN nq1 = w7 at HF7 ⊢
  go_wp2_with (fail)
  refine (HKb.out w7 A5 HF7.out (HYb.out.fr0 HF7.out)).mono ?_
  rintro en w8 ⟨rfl, nq2, rfl⟩
  have HF8 : Hid (Fr No w6 (w7.drewN nq2)) := hide (HF7.out.drewN nq2)
  generalize w7.drewN nq2 = w8 at HF8 ⊢
  clear HF7 w7
  go_wp2_with (fail)
  refine (HKs.out w8 HF8.out).mono ?_
  rintro en w9 ⟨rfl, nq3, rfl⟩
  have HF9 : Hid (Fr No w6 (w8.drewN nq3)) := hide (HF8.out.drewN nq3)
  generalize w8.drewN nq3 = w9 at HF9 ⊢
  clear HF8 w8 HKb HKs
  have HAp := hide (apart8_two w9.heap.size A4 A5 m' m' m' m' _ _ (w9.alloc (.cells #[.slice A4 m' m', .slice A5 m' m'] 25)) (by omega) (by omega) (heap_alloc_new w9 _) (HXb.out.fr0 (HF9.out.alloc _)) (HYb.out.fr0 (HF9.out.alloc _)) HD45.out)
  go_wp2_with (fail)
  refine HAp.out.mono ?_
  rintro en w10 ⟨rfl, hfr⟩
  have HFa : Hid (Fr (fun k => (Value.slice A4 m' m').ownBlock = some k ∨ (Value.slice A5 m' m').ownBlock = some k) w6 w10) := hide (((HF9.out.alloc _).any _).ts hfr)
  have HF10 : Hid (Fr No w w10) := hide (HF6.out.trans HFa.out (fun k hk h2 => by
    rcases h2 with h2 | h2
    · have a1 := (HX4l.out k h2).1; have := HF1.out.size; omega
    · have a1 := HYl.out k h2; have := HF1.out.size; have := HF13.out.size; omega))
  clear hfr HAp HFa HXb HYb HD45 HI6 HF9
  go_wp2_with (fail)
  refine (awake10_any w10).mono ?_
  rintro en w11 ⟨rfl, hfr⟩
  have HF11 := hide (HF10.out.tr hfr)
  clear hfr
  go_wp2_with (fail)
  go_ret
  exact ⟨by simp, HF11.out⟩
end Go.Proofs.Ythlbfnoahdjdeaa
namespace Go.Proofs.Ythlbfnoahdjdeaa
set_option linter.unusedVariables false
set_option linter.unusedSimpArgs false
open Go.RowKit

set_option maxRecDepth 100000 in
set_option maxHeartbeats 400000 in
theorem plen_any (base G n : Nat) (bks : List Bk) (w : World) (h : LstM w base G bks n) : Calls Try.prog 32 #[.pointer (some ⟨G, 0, none⟩)] w (Ret (.int .i64 (n : Nat)) w) := by
  obtain ⟨v, bs, q1, _, _⟩ := h.ex
  have k1 : w.cell? ⟨G, 1, none⟩ = some (.int .i64 (n : Nat)) := cell_of_row _ _ 1 _ _ _ q1
  clear q1 h
  go_enter Try.func32, Try.ntmps32
  go_wp2
  go_ret
  exact ⟨rfl, rfl⟩
set_option maxRecDepth 100000 in
set_option maxHeartbeats 400000 in
theorem plen_nil (w : World) : Calls Try.prog 32 #[.pointer none] w (Ret (.int .i64 0) w) := by
  go_enter Try.func32, Try.ntmps32
  go_wp2
  go_ret
  exact ⟨rfl, rfl⟩
end Go.Proofs.Ythlbfnoahdjdeaa
namespace Go.Proofs.Ythlbfnoahdjdeaa
set_option linter.unusedVariables false
set_option linter.unusedSimpArgs false
open Go.RowKit

set_option maxRecDepth 100000 in
set_option maxHeartbeats 400000 in
theorem pposts_nil (w : World) : Calls Try.prog 34 #[.pointer none] w (Ret (.slice none 0 0) w) := by
  go_enter Try.func34, Try.ntmps34
  go_wp2
  go_ret
  exact ⟨rfl, rfl⟩
/-- rows of posts that were told. -/
theorem posts_rd {w w' : World} {l : List Po} {en : Ending} (h : PPostsQ w l en w') : Fr No w w' ∧ ∃ A, en = .returned (.slice A l.length l.length) ∧ l.length ≤ maxLen ∧ RdPo w' w'.heap.size A l ∧ InI2 l ∧ ∀ x ∈ l, x.2.length ≤ 140737488351232 := by
  obtain ⟨h1, A, ps, he, hps, hm⟩ := h
  have hl : ps.length = l.length := by rw [← hm, List.length_map]
  have h2 := hps.inI
  have h3 : OwnPs w' w.heap.size (.slice A ps.length l.length) ps := by rw [hl]; exact hps
  have h4 := h3.rd
  rw [hm] at h2 h4
  exact ⟨h1, A, he, by have := hps.row.le; omega, h4, h2.1, h2.2⟩

set_option maxRecDepth 100000 in
set_option maxHeartbeats 4000000 in
theorem poback_any (A0 A1 : Option Addr) (n0 c0 n1 c1 : Nat) (l : List Po) (bs : List UInt8) (w : World)
    (h0 : l.length = n0) (x0 : n0 ≤ c0) (y0 : c0 ≤ maxLen) (z0 : n0 * 32 ≤ 140737488351232) (r0 : RdPo w w.heap.size A0 l) (i0 : InI2 l) (s0 : ∀ e ∈ l, (e.2.length + 1) * 8 ≤ 140737488355328)
    (h1 : bs.length = n1) (x1 : n1 ≤ c1) (y1 : c1 ≤ maxLen) (z1 : c1 ≤ 140737488351232) (r1 : Rd w w.heap.size A1 (by8 bs)) :
    Calls Try.prog 7 #[.slice A0 n0 c0, .slice A1 n1 c1] w (RetB true w) := by
  by_cases g0 : 200 < n0 ∨ 5000 < n1
  · by_cases g1 : 200 < n0
    · have d1 : decide ((200 : Int) < (n0 : Int)) = true := decide_eq_true (by omega)
      have d1b : decide (200 < n0) = true := decide_eq_true g1
      clear y0 r0 h0 i0 s0 y1 r1 h1 z1 z0 g0
      go_enter Try.func7, Try.ntmps7
      go_wp2_with (go_at_call 9; refine (awake10_any _).mono ?_; rintro en w4 ⟨rfl, hfr⟩; have HF4 := hide hfr; clear hfr)
      go_ret
      exact ⟨rfl, HF4.out⟩
    · have g2 : 5000 < n1 := by omega
      have d1 : decide ((200 : Int) < (n0 : Int)) = false := decide_eq_false (by omega)
      have d1b : decide (200 < n0) = false := decide_eq_false g1
      have d2 : decide ((5000 : Int) < (n1 : Int)) = true := decide_eq_true (by omega)
      have d2b : decide (5000 < n1) = true := decide_eq_true g2
      clear y0 r0 h0 i0 s0 y1 r1 h1 z1 z0 g0 g1 g2
      go_enter Try.func7, Try.ntmps7
      go_wp2_with (go_at_call 9; refine (awake10_any _).mono ?_; rintro en w4 ⟨rfl, hfr⟩; have HF4 := hide hfr; clear hfr)
      go_ret
      exact ⟨rfl, HF4.out⟩
  have d1 : decide ((200 : Int) < (n0 : Int)) = false := decide_eq_false (by omega)
  have d1b : decide (200 < n0) = false := decide_eq_false (by omega)
  have d2 : decide ((5000 : Int) < (n1 : Int)) = false := decide_eq_false (by omega)
  have d2b : decide (5000 < n1) = false := decide_eq_false (by omega)
  have hn0 : n0 ≤ 200 := by omega
  have hn1 : n1 ≤ 5000 := by omega
  have HL := hide h0
  have HL1 := hide h1
  have HR0 := hide r0
  have HR1 := hide r1
  have HS0 := hide s0
  have HIn := hide (And.intro i0 (show ∀ x ∈ l, x.2.length ≤ 140737488351232 from fun x hx => by have := s0 x hx; omega))
  have HC := hide (And.intro (And.intro x0 y0) (And.intro x1 y1))
  have HBt := hide (fun W (hW : Fr No w W) => pbuild_any A0 n0 c0 w.heap.size l W h0 x0 y0 hW.size (r0.fr0 hW) HIn.out.1 HIn.out.2)
  have HOd := hide (fun W (hW : Fr No w W) => popen_any A1 n1 c1 w.heap.size bs W h1 x1 y1 (by omega) hW.size (r1.fr0 hW))
  clear y0 r0 h0 i0 s0 z0 y1 r1 h1 z1 g0
  go_enter Try.func7, Try.ntmps7
  go_wp2_with (fail)
  refine (awake10_any w).mono ?_
  rintro en w1 ⟨rfl, hfr⟩
  have HF1 := hide hfr
  clear hfr
  go_wp2_with (fail)
  refine (HBt.out w1 HF1.out).mono ?_
  rintro en w3 hbp
  obtain ⟨hfr, A4, m, e, b, rfl, hbl, hob, hbd⟩ := pbuild_bd hbp
  have HF3 := hide (HF1.out.tr hfr)
  have HO3 := hide hob
  have HBd := hide hbd
  have HBl := hide hbl
  have hmb : m ≤ 20000000000 := by rw [← hbl]; exact bdP_le hbd
  clear hbp hfr hob hbd hbl HBt
  go_upto_region 4 with (fail)
  refine wp_named fun K hK => ?_
  go_cut [34] from 33 to 34 (fun v wx => v = .bool (e == 0) ∧ wx = w3)
  case first =>
    go_wp2_with (fail)
    go_meet
    exact ⟨rfl, rfl⟩
  case rest =>
  obtain ⟨rfl, rfl⟩ := hcut
  obtain ⟨w3, rfl⟩ : ∃ W : World, W = wc := ⟨_, rfl⟩
  refine hK _ _ ?_
  clear hK K
  go_upto_if 34 with (fail)
  refine wp_named fun K hK => ?_
  go_cut [7, 8, 9, 10] from 35 to 88 (fun v7 v8 v9 v10 wx => Hid (Fr No w wx))
  case first =>
    rcases HBd.out with ⟨rfl, hok, hbs⟩ | ⟨rfl, _, _⟩
    rotate_left
    · go_wp2_with (fail)
      go_meet
      exact HF3
    have HFo : Hid (FormP b l) := hide ⟨hok, hbs.symm⟩
    have HOp := hide (popen_any A4 m m w3.heap.size b w3 HBl.out (Nat.le_refl _) (by unfold maxLen; omega) (by omega) (Nat.le_refl _) HO3.out.rd)
    have HOk := hide hok
    clear hok hbs HBd
    go_wp2_with (fail)
    refine HOp.out.mono ?_
    rintro en w4 ⟨hfr, (⟨G, l', hf, rfl, hl⟩ | ⟨hno, _⟩)⟩
    rotate_left
    · exact absurd HFo.out (hno _)
    obtain rfl := buildP_inj hf HFo.out
    have HF4 := hide (HF3.out.tr hfr)
    have HL4 := hide hl
    have HPo := hide (pposts_any _ G _ l' w4 hl HOk.out)
    clear hfr hf hl HOp
    go_wp2_with (fail)
    refine HPo.out.mono ?_
    rintro en w5 hpp
    obtain ⟨hfr, Ag, he, hml, hrd, -, -⟩ := posts_rd hpp
    rw [HL.out] at he hml
    subst he
    have HF5 := hide (HF4.out.tr hfr)
    have HL5 := hide (HL4.out.fr0 hfr)
    have HRg := hide hrd
    have HLe := hide (plen_any _ G _ _ w5 HL5.out)
    rw [HL.out] at HLe
    unfold maxLen at hml
    clear hfr hrd hpp HPo HL4
    have d3 : ((n0 : Int) != (n0 : Int)) = false := by simp
    go_wp2_with (fail)
    refine HLe.out.mono ?_
    rintro en w6 ⟨rfl, rfl⟩
    have HF50 : Hid (Fr No w5 w5) := hide (Fr.refl No w5)
    go_wp2_with (fail)
    go_loopw [10] (fun ix wr => ∃ k : Nat, k ≤ n0 ∧ ix = .int .i64 k ∧ Hid (Fr No w5 wr)) (fun ix _ => n0 - (intOf ix).toNat)
    case atStart => exact ⟨0, Nat.zero_le _, rfl, HF50⟩
    case round =>
      obtain ⟨wo, rfl⟩ : ∃ wo : World, wo = wr := ⟨_, rfl⟩
      obtain ⟨k, hk, rfl, HFo2⟩ := hrel
      by_cases hlt : k < n0
      · have hkl : k < l'.length := by rw [HL.out]; exact hlt
        obtain ⟨ad, Ak, ck, rfl, -, e0, e1, p1, p2, p3⟩ := (HRg.out.fr0 HFo2.out).at hkl
        obtain ⟨bd, Bk, dk, rfl, -, f0, f1, q1, q2, q3⟩ := (HR0.out.fr0 (HF5.out.tr HFo2.out)).at hkl
        obtain ⟨E, hE⟩ : ∃ E, l'.getD k noPo = E := ⟨_, rfl⟩
        rw [hE] at e0 e1 p1 p3 f0 f1 q1 q3
        obtain ⟨pm, hpm⟩ : ∃ pm, E.2.length = pm := ⟨_, rfl⟩
        rw [hpm] at e1 p1 f1 q1
        obtain ⟨dd, hdd⟩ : ∃ x, E.1 = x := ⟨_, rfl⟩
        rw [hdd] at e0 f0
        have HKi := hide (fun t => sameInt_any Ak Bk pm ck pm dk w5.heap.size w.heap.size E.2 E.2 (wo.drewN t) hpm hpm p1 p2 q1 q2 (p3.fr0 ((Fr.refl No wo).drewN t)) (q3.fr0 ((Fr.refl No wo).drewN t)))
        rw [decide_eq_true rfl] at HKi
        have hb : (dd != dd) = false := by simp
        have j0 : (0 : Int) ≤ (k : Int) := by omega
        have j1 : (k : Int) < (n0 : Int) := by omega
        clear hkl hE hpm hdd p1 p2 p3 q1 q2 q3
        go_wp2
        go_quiet ((go_at_call 28; exact Calls.quiet_of (HKi.out _)))
        go_wp2
        go_roundw
        case rel => exact ⟨k + 1, by omega, by go_num, hide (HFo2.out.drewN _)⟩
        case measure => simp [intOf]; omega
      · obtain rfl : k = n0 := by omega
        clear hlt
        go_wp2_with (fail)
        go_meet
        exact hide (HF5.out.tr HFo2.out)
  case rest =>
  obtain ⟨w7, rfl⟩ : ∃ W : World, W = wc := ⟨_, rfl⟩
  have HF7 : Hid (Fr No w w7) := hcut
  refine hK _ _ ?_
  clear hK K HF3 HO3 HBd HBl hcut
  go_wp2_with (fail)
  refine (HOd.out w7 HF7.out).mono ?_
  rintro en w8 ⟨hfr, (⟨G, l', hf, rfl, hl⟩ | ⟨hno, rfl⟩)⟩
  · have HF8 := hide (HF7.out.tr hfr)
    have HFm := hide hf
    have HPo := hide (pposts_any _ G _ l' w8 hl hf.1)
    clear hfr hf hl
    go_wp2_with (fail)
    refine HPo.out.mono ?_
    rintro en w9 hpp
    obtain ⟨hfr, Ag, rfl, hml, hrd, hi1, hi2⟩ := posts_rd hpp
    have HF9 := hide (HF8.out.tr hfr)
    have HBt := hide (pbuild_any Ag l'.length l'.length w9.heap.size l' w9 rfl (Nat.le_refl _) hml (Nat.le_refl _) hrd hi1 hi2)
    clear hfr hrd hpp hi1 hi2 hml HPo
    go_wp2_with (fail)
    refine HBt.out.mono ?_
    rintro en w10 ⟨hfr, (⟨_, A6, m6, hm6, rfl, hO⟩ | ⟨hno, _⟩)⟩
    rotate_left
    · exact absurd HFm.out.1 hno
    rw [HFm.out.2] at hm6 hO
    obtain rfl : n1 = m6 := by rw [hm6, HL1.out]
    have HF10 := hide (HF9.out.tr hfr)
    have HKb := hide (kbytes_any A6 A1 n1 n1 n1 c1 w10.heap.size w.heap.size bs bs w10 HL1.out HL1.out (Nat.le_refl _) (by unfold maxLen; omega) HC.out.2.1 HC.out.2.2 hO.rd (HR1.out.fr0 HF10.out))
    rw [decide_eq_true rfl] at HKb
    clear hfr hO hm6 HBt
    go_wp2_with (fail)
    refine HKb.out.mono ?_
    rintro en w11 ⟨rfl, nq, rfl⟩
    go_wp2_with (fail)
    go_ret
    exact ⟨by simp, HF10.out.drewN nq⟩
  · have HF8 := hide (HF7.out.tr hfr)
    have HBt := hide (pbuild_any none 0 0 0 [] w8 rfl (Nat.le_refl _) (Nat.zero_le _) (Nat.zero_le _) (RdPo.nil _ _) (fun x hx => nomatch hx) (fun x hx => nomatch hx))
    clear hfr hno
    go_wp2_with (fail)
    refine (pposts_nil w8).mono ?_
    rintro en w9 ⟨rfl, rfl⟩
    go_wp2_with (fail)
    refine HBt.out.mono ?_
    rintro en w10 hbp
    obtain ⟨hfr, A6, m6, e6, b6, rfl, -, -, -⟩ := pbuild_bd hbp
    have HF10 := hide (HF8.out.tr hfr)
    clear hfr hbp
    go_wp2_with (fail)
    go_ret
    exact ⟨by simp, HF10.out⟩
end Go.Proofs.Ythlbfnoahdjdeaa
