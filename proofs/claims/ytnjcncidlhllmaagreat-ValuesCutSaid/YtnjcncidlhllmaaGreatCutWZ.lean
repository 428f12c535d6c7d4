/- ValuesCut, walked. -/
import Derived.Test.YtnjcncidlhllmaaGreatK14
namespace Go.Proofs.YtnjcncidlhllmaaGreat
set_option linter.unusedVariables false
set_option linter.unusedSimpArgs false
open Go.RowKit

theorem OpenQ.no {w : World} {bs : List UInt8} {en : Ending} {w' : World} (h : OpenQ w bs en w') (hno : ¬ ∃ r, FormV bs r) : en = .returned (.tuple #[.pointer none, .int .i64 20]) ∧ Fr No w w' := by
  obtain ⟨hf, ⟨_, e⟩ | ⟨r, hr, _⟩⟩ := h
  · exact ⟨e, hf⟩
  · exact absurd ⟨r, hr⟩ hno
theorem OpenTQ.no {w : World} {bs : List UInt8} {en : Ending} {w' : World} (h : OpenTQ w bs en w') (hno : ¬ accT bs) : en = .returned (.tuple #[.pointer none, .int .i64 20]) ∧ Fr No w w' := by
  obtain ⟨hf, ⟨_, e⟩ | ⟨h, _⟩⟩ := h
  · exact ⟨e, hf⟩
  · exact absurd h hno
theorem keptV_form1 {rows : Rw} {bs : List UInt8} (hi : ∀ l ∈ rows, InI l) (hbs : bs = keptV rows) (h : bs ≠ []) : ∃ r, FormV bs r := by
  subst hbs
  exact ⟨_, keptV_form (keptV_ne.1 h) hi⟩
theorem keptT_form1 {rows : RwT} {bs : List UInt8} (hbs : bs = keptT rows) (h : bs ≠ []) : ∃ r, okT r ∧ bs = textsB r := by
  have h1 := keptT_ne.1 (by rw [← hbs]; exact h)
  exact ⟨rows, h1, by rw [hbs, keptT, if_pos h1]⟩
set_option maxRecDepth 100000 in
set_option maxHeartbeats 8000000 in
theorem valuesCut_any (A0 A1 : Option Addr) (n0 c0 n1 c1 : Nat) (rows : Rw) (rt : RwT) (z : Int) (x : UInt8) (w : World)
    (h0 : rows.length = n0) (x0 : n0 ≤ c0) (y0 : c0 ≤ maxLen) (z0 : c0 * 24 ≤ 140737488351232) (r0 : ISl w w.heap.size A0 rows) (b0 : ∀ l ∈ rows, l.length * 8 ≤ 140737488351232) (i0 : ∀ l ∈ rows, InI l)
    (h1 : rt.length = n1) (x1 : n1 ≤ c1) (y1 : c1 ≤ maxLen) (z1 : c1 * 24 ≤ 140737488351232) (r1 : TSl w w.heap.size A1 rt) (b1 : ∀ l ∈ rt, l.length * 16 ≤ 140737488351232) :
    Calls Tryz.prog 3 #[.slice A0 n0 c0, .slice A1 n1 c1, .int .i64 z, .int .u8 (x.toNat : Nat)] w (RetB true w) := by
  obtain ⟨i5, hi5, hz5, hsz5, hby5⟩ := info_parts Tryz.info5
  have HL := hide h0
  have HL1 := hide h1
  have HI := hide i0
  have HC := hide (And.intro x0 y0)
  have HC1 := hide (And.intro x1 y1)
  have HLn := hide (fun W (f : Fr No w W) => lentRows_any A0 n0 c0 W.heap.size rows W h0 x0 y0 (by omega) (fun l hl => by have := b0 l hl; omega) (Nat.le_refl _) ((r0.fr0 f).more f.size))
  have HLt := hide (fun W (f : Fr No w W) => texts_any A1 n1 c1 W.heap.size rt W h1 x1 y1 (by omega) (fun l hl => by have := b1 l hl; omega) (Nat.le_refl _) ((r1.fr0 f).more f.size))
  unfold maxLen at y0 y1
  clear h0 h1 i0 r0 r1 b0 b1
  go_enter Tryz.func3, Tryz.ntmps3
  go_wp2_with (fail)
  refine (known12_any w).mono ?_
  rintro en w1 ⟨rfl, hf⟩
  have HF1 := hide hf
  clear hf
  go_wp2_with (fail)
  refine (HLn.out w1 HF1.out).mono ?_
  rintro en w2 ⟨A2, c2, rfl, j1, j2, hlr, hf⟩
  have HF2 := hide (HF1.out.tr hf)
  have HNu := hide (numbers_any A2 n0 c2 w2.heap.size rows w2 HL.out HI.out (by omega) j2 (Nat.le_refl _) hlr.isl)
  unfold maxLen at j2
  clear hf hlr HLn
  go_wp2_with (fail)
  refine HNu.out.mono ?_
  rintro en w3 ⟨v3, rfl, hob, hf⟩
  obtain ⟨bs, hbs⟩ : ∃ x, x = keptV rows := ⟨_, rfl⟩
  obtain ⟨m, hm⟩ : ∃ x, x = bs.length := ⟨_, rfl⟩
  rw [← hbs, ← hm] at hob
  obtain ⟨A3, c3, rfl, q1, q2, _⟩ := hob.form
  have HO3 := hide hob
  have HF3 := hide (HF2.out.tr hf)
  have HQ3 := hide (And.intro q1 q2)
  have hmb : m ≤ 140737488300000 := by
    rw [hm, hbs]
    unfold keptV
    split
    · rename_i h
      have := formV_leT (sortV_ok h) (sortV_in HI.out)
      omega
    · simp
  have HFm := hide (fun (h : 0 < m) => keptV_form1 (bs := bs) HI.out hbs (fun e => by rw [hm, e] at h; simp at h))
  have HM := hide hm
  unfold maxLen at q2
  clear hf hob hbs hm HNu
  go_upto_if 28 with (fail)
  refine wp_named fun K hK => ?_
  go_cut [10, 11, 12, 13, 14] from 26 to 61 (fun v10 v11 v12 v13 v14 wx => Hid (Fr No w wx))
  case first =>
    by_cases hm0 : 0 < m
    · have d0 : decide (0 < m) = true := decide_eq_true hm0
      have d1 : decide ((0 : Int) < (m : Int)) = true := decide_eq_true (by omega)
      have hm1 : 1 ≤ m := hm0
      have hmz : ¬ (m : Int) = 0 := by omega
      have hmzN : ¬ m = 0 := by omega
      obtain ⟨rr, hfm⟩ := HFm.out hm0
      obtain ⟨r, hr⟩ : ∃ r, z.tmod (m : Int) = r := ⟨_, rfl⟩
      have hrb : -(m : Int) < r ∧ r < m := by
        rw [← hr]
        have h1 := Int.tmod_lt_of_pos z (show (0 : Int) < m by omega)
        have h2 := Int.tmod_lt_of_pos (-z) (show (0 : Int) < m by omega)
        rw [Int.neg_tmod] at h2
        omega
      obtain ⟨hr1, hr2⟩ := hrb
      obtain ⟨kk, hkk, hkm⟩ : ∃ kk : Nat, (if r < 0 then r + (m : Int) else r) = (kk : Int) ∧ kk < m := by
        by_cases h : r < 0
        · exact ⟨(r + m).toNat, by rw [if_pos h]; omega, by omega⟩
        · exact ⟨r.toNat, by rw [if_neg h]; omega, by omega⟩
      have HKk := hide hkk
      clear hkk
      go_upto_if 34 with (fail)
      refine wp_named fun K2 hK2 => ?_
      go_cut [10] from 26 to 38 (fun v wx => v = .int .i64 kk ∧ w3 = wx)
      case first =>
        by_cases hneg : r < 0
        · have HN := hide hneg
          go_wp2
          go_meet
          exact ⟨by rw [← HKk.out, if_pos HN.out], rfl⟩
        · have HN := hide hneg
          go_wp2
          go_meet
          exact ⟨by rw [← HKk.out, if_neg (Int.not_lt.2 HN.out)], rfl⟩
      case rest =>
        obtain ⟨rfl, rfl⟩ := hcut
        refine hK2 _ _ ?_
        clear hK2 K2 hr
        have hkc : kk ≤ c3 := by omega
        have hbt : (bs.take kk).length = kk := by rw [List.length_take, ← HM.out]; omega
        have HLa := hide (lent8_any A3 kk c3 _ (bs.take kk) w3 hbt (by omega) (by rw [by8_take]; exact HO3.out.rd.tk kk))
        have HBt := hide hbt
        have HLb := hide (fun (W : World) (f : Fr No w3 W) => lent8_any A3 m c3 _ bs W HM.out.symm (by omega) (HO3.out.fr0 f).rd)
        clear hbt
        go_wp2_with (fail)
        refine HLa.out.mono ?_
        rintro en w4 ⟨A4, c4, rfl, hown, hfr⟩
        rw [HBt.out] at hown ⊢
        have q3 := hown.le
        have HF4 : Hid (Fr No w3 w4) := hide hfr
        have hrd : Rd w4 w4.heap.size A4 (by8 (bs.take kk)) := by
          have h := hown.rd.tk kk
          rw [← by8_take, List.take_append_of_le_length (by rw [HBt.out]; exact Nat.le_refl _), List.take_of_length_le (by rw [HBt.out]; exact Nat.le_refl _)] at h
          exact h
        have HOp4 := hide (openNumbers_any A4 kk c4 w4.heap.size (bs.take kk) w4 HBt.out (by omega) q3.2.2 (by omega) (Nat.le_refl _) hrd)
        clear hown hfr hrd q3 HLa
        go_wp2_with (fail)
        refine HOp4.out.mono ?_
        intro en w5 hq
        obtain ⟨rfl, hfr⟩ := hq.no (cut_no hfm (by rw [← HM.out]; exact hkm))
        have HF5 : Hid (Fr No w3 w5) := hide (HF4.out.tr hfr)
        clear hfr hq HOp4
        go_wp2_with (fail)
        refine (HLb.out w5 HF5.out).mono ?_
        rintro en w6 ⟨A6, c6, rfl, hown, hfr⟩
        rw [← HM.out] at hown ⊢
        have q5 := hown.le
        have hcutO := hown.cut (k := m) (c' := c6) (by omega) (Nat.le_refl _) (by omega)
        rw [Nat.mul_one, ← by8_take, List.take_append_of_le_length (by rw [← HM.out]; exact Nat.le_refl _), List.take_of_length_le (by rw [← HM.out]; exact Nat.le_refl _)] at hcutO
        have HF6 : Hid (Fr No w3 w6) := hide (HF5.out.tr hfr)
        have f6 : Fr No w6 (w6.alloc (.cells #[.int .u8 (x.toNat : Nat)] 5)) := (Fr.refl No w6).alloc _
        have HO6 := hide (hcutO.fr0 f6)
        have HS6 := hide (Src.one (P := Tryz.prog) w6 (e := 5) Tryz.underlying25 (.int .u8 (x.toNat : Nat)) rfl)
        have HF6b : Hid (Fr No w3 (w6.alloc (.cells #[.int .u8 (x.toNat : Nat)] 5))) := hide (HF6.out.tr f6)
        have b1 : (m + 1) * 1 ≤ 140737488355328 := by omega
        have b2 : m + 1 ≤ maxLen := by unfold maxLen; omega
        have b3 : w5.heap.size ≤ (w6.alloc (.cells #[.int .u8 (x.toNat : Nat)] 5)).heap.size := Nat.le_trans hfr.size f6.size
        clear hown hfr q5 hcutO f6
        go_wp2_with (first | (at_builtin; refine wpList_append_gen _ rfl (.tmp 49) (.tmp 51) 25 25 rfl w5.heap.size 5 i5 (.int .u8 0) 1 1 Tryz.underlying25 hi5 hz5 hsz5 hby5 rfl (.slice A6 m c6) m (by8 bs) rfl HO6.out _ 1 [.int .u8 (x.toNat : Nat)] rfl HS6.out b1 b2 b3 ?_; intro v7 w7 hown hfr hat; obtain ⟨A7, c7, rfl, g1, g2, _⟩ := hown.form; have HO7 := hide hown; have HF7 : Hid (Fr No w3 w7) := hide (HF6b.out.own hfr (fun k hk => .inl (Nat.le_trans HF5.out.size (HO6.out.lt k hk).1))); have HX7 := hide (And.intro g1 g2); clear hown hfr hat g1 g2) | fail)
        have HOp7 := hide (openNumbers_any A7 (m + 1) c7 w7.heap.size (bs ++ [x]) w7 (by rw [List.length_append, ← HM.out]; rfl) HX7.out.1 HX7.out.2 (by omega) (Nat.le_refl _) (by rw [by8_append]; exact HO7.out.rd))
        refine HOp7.out.mono ?_
        intro en w8 hq
        obtain ⟨rfl, hfr⟩ := hq.no (more_no hfm x)
        have HF8 : Hid (Fr No w w8) := hide (HF3.out.tr (HF7.out.tr hfr))
        clear hfr hq HOp7
        go_wp2
        go_meet
        exact HF8
    · obtain rfl : m = 0 := by omega
      go_wp2
      go_meet
      exact HF3
  case rest =>
    refine hK _ _ ?_
    obtain ⟨w4, rfl⟩ : ∃ W : World, W = wc := ⟨_, rfl⟩
    have HF4 := hcut
    clear hK K HFm HO3 HF3 hcut HQ3
    go_wp2_with (fail)
    refine (HLt.out w4 HF4.out).mono ?_
    rintro en w5 ⟨A5, c5, rfl, j3, j4, hlr, hf⟩
    have HF5 := hide (HF4.out.tr hf)
    have HTx := hide (texts12_any A5 n1 c5 w5.heap.size rt w5 HL1.out j3 j4 (Nat.le_refl _) hlr.tsl)
    unfold maxLen at j4
    clear hf hlr HLt
    go_wp2_with (fail)
    refine HTx.out.mono ?_
    rintro en w9 ⟨v9, rfl, hob, hf⟩
    obtain ⟨cs, hcs⟩ : ∃ x, x = keptT rt := ⟨_, rfl⟩
    obtain ⟨mt, hmt⟩ : ∃ x, x = cs.length := ⟨_, rfl⟩
    rw [← hcs, ← hmt] at hob
    obtain ⟨A9, c9, rfl, q3, q4, _⟩ := hob.form
    have HO9 := hide hob
    have HF9 := hide (HF5.out.tr hf)
    have hmtb : mt ≤ 400000000 := by rw [hmt, hcs]; exact keptT_len rt
    have HFt := hide (fun (h : 0 < mt) => keptT_form1 (bs := cs) hcs (fun e => by rw [hmt, e] at h; simp at h))
    have HMt := hide hmt
    unfold maxLen at q4
    clear hf hob hcs hmt HTx
    by_cases hmt0 : mt = 0
    · subst hmt0
      go_wp2_with (fail)
      go_ret
      exact ⟨rfl, HF9.out⟩
    have hm0 : 0 < mt := by omega
    have hmI : ((mt : Int) == 0) = false := by simpa using hmt0
    have hm1 : 1 ≤ mt := hm0
    have hmz : ¬ (mt : Int) = 0 := by omega
    have hmzN : ¬ mt = 0 := by omega
    obtain ⟨rr, hot, hct⟩ := HFt.out hm0
    obtain ⟨r, hr⟩ : ∃ r, z.tmod (mt : Int) = r := ⟨_, rfl⟩
    have hrb : -(mt : Int) < r ∧ r < mt := by
      rw [← hr]
      have h1 := Int.tmod_lt_of_pos z (show (0 : Int) < mt by omega)
      have h2 := Int.tmod_lt_of_pos (-z) (show (0 : Int) < mt by omega)
      rw [Int.neg_tmod] at h2
      omega
    obtain ⟨hr1, hr2⟩ := hrb
    obtain ⟨kk, hkk, hkm⟩ : ∃ kk : Nat, (if r < 0 then r + (mt : Int) else r) = (kk : Int) ∧ kk < mt := by
      by_cases h : r < 0
      · exact ⟨(r + mt).toNat, by rw [if_pos h]; omega, by omega⟩
      · exact ⟨r.toNat, by rw [if_neg h]; omega, by omega⟩
    have HKk := hide hkk
    clear hkk
    go_upto_if 73 with (fail)
    refine wp_named fun K2 hK2 => ?_
    go_cut [16] from 65 to 77 (fun v wx => v = .int .i64 kk ∧ w9 = wx)
    case first =>
      by_cases hneg : r < 0
      · have HN := hide hneg
        go_wp2
        go_meet
        exact ⟨by rw [← HKk.out, if_pos HN.out], rfl⟩
      · have HN := hide hneg
        go_wp2
        go_meet
        exact ⟨by rw [← HKk.out, if_neg (Int.not_lt.2 HN.out)], rfl⟩
    case rest =>
      obtain ⟨rfl, rfl⟩ := hcut
      refine hK2 _ _ ?_
      clear hK2 K2 hr
      have hkc : kk ≤ c9 := by omega
      have hbt : (cs.take kk).length = kk := by rw [List.length_take, ← HMt.out]; omega
      have HLa := hide (lent8_any A9 kk c9 _ (cs.take kk) w9 hbt (by omega) (by rw [by8_take]; exact HO9.out.rd.tk kk))
      have HBt := hide hbt
      have HLb := hide (fun (W : World) (f : Fr No w9 W) => lent8_any A9 mt c9 _ cs W HMt.out.symm (by omega) (HO9.out.fr0 f).rd)
      clear hbt
      go_wp2_with (fail)
      refine HLa.out.mono ?_
      rintro en w4 ⟨A4, c4, rfl, hown, hfr⟩
      rw [HBt.out] at hown ⊢
      have q3 := hown.le
      have HF4 : Hid (Fr No w9 w4) := hide hfr
      have hrd : Rd w4 w4.heap.size A4 (by8 (cs.take kk)) := by
        have h := hown.rd.tk kk
        rw [← by8_take, List.take_append_of_le_length (by rw [HBt.out]; exact Nat.le_refl _), List.take_of_length_le (by rw [HBt.out]; exact Nat.le_refl _)] at h
        exact h
      have HOp4 := hide (openTexts_any A4 kk c4 w4.heap.size (cs.take kk) w4 HBt.out (by omega) q3.2.2 (by omega) (Nat.le_refl _) hrd)
      clear hown hfr hrd q3 HLa
      go_wp2_with (fail)
      refine HOp4.out.mono ?_
      intro en w5 hq
      obtain ⟨rfl, hfr⟩ := hq.no (by rw [hct]; exact cutT_no hot (by rw [← hct, ← HMt.out]; exact hkm))
      have HF5 : Hid (Fr No w9 w5) := hide (HF4.out.tr hfr)
      clear hfr hq HOp4
      go_wp2_with (fail)
      refine (HLb.out w5 HF5.out).mono ?_
      rintro en w6 ⟨A6, c6, rfl, hown, hfr⟩
      rw [← HMt.out] at hown ⊢
      have q5 := hown.le
      have hcutO := hown.cut (k := mt) (c' := c6) (by omega) (Nat.le_refl _) (by omega)
      rw [Nat.mul_one, ← by8_take, List.take_append_of_le_length (by rw [← HMt.out]; exact Nat.le_refl _), List.take_of_length_le (by rw [← HMt.out]; exact Nat.le_refl _)] at hcutO
      have HF6 : Hid (Fr No w9 w6) := hide (HF5.out.tr hfr)
      have f6 : Fr No w6 (w6.alloc (.cells #[.int .u8 (x.toNat : Nat)] 5)) := (Fr.refl No w6).alloc _
      have HO6 := hide (hcutO.fr0 f6)
      have HS6 := hide (Src.one (P := Tryz.prog) w6 (e := 5) Tryz.underlying25 (.int .u8 (x.toNat : Nat)) rfl)
      have HF6b : Hid (Fr No w9 (w6.alloc (.cells #[.int .u8 (x.toNat : Nat)] 5))) := hide (HF6.out.tr f6)
      have b1 : (mt + 1) * 1 ≤ 140737488355328 := by omega
      have b2 : mt + 1 ≤ maxLen := by unfold maxLen; omega
      have b3 : w5.heap.size ≤ (w6.alloc (.cells #[.int .u8 (x.toNat : Nat)] 5)).heap.size := Nat.le_trans hfr.size f6.size
      clear hown hfr q5 hcutO f6
      go_wp2_with (first | (at_builtin; refine wpList_append_gen _ rfl (.tmp 88) (.tmp 90) 25 25 rfl w5.heap.size 5 i5 (.int .u8 0) 1 1 Tryz.underlying25 hi5 hz5 hsz5 hby5 rfl (.slice A6 mt c6) mt (by8 cs) rfl HO6.out _ 1 [.int .u8 (x.toNat : Nat)] rfl HS6.out b1 b2 b3 ?_; intro v7 w7 hown hfr hat; obtain ⟨A7, c7, rfl, g1, g2, _⟩ := hown.form; have HO7 := hide hown; have HF7 : Hid (Fr No w9 w7) := hide (HF6b.out.own hfr (fun k hk => .inl (Nat.le_trans HF5.out.size (HO6.out.lt k hk).1))); have HX7 := hide (And.intro g1 g2); clear hown hfr hat g1 g2) | fail)
      have HOp7 := hide (openTexts_any A7 (mt + 1) c7 w7.heap.size (cs ++ [x]) w7 (by rw [List.length_append, ← HMt.out]; rfl) HX7.out.1 HX7.out.2 (by omega) (Nat.le_refl _) (by rw [by8_append]; exact HO7.out.rd))
      refine HOp7.out.mono ?_
      intro en w8 hq
      obtain ⟨rfl, hfr⟩ := hq.no (by rw [hct]; exact moreT_no hot x)
      have HF8 : Hid (Fr No w w8) := hide (HF9.out.tr (HF7.out.tr hfr))
      clear hfr hq HOp7
      go_wp2_with (fail)
      go_ret
      exact ⟨rfl, HF8.out⟩
end Go.Proofs.YtnjcncidlhllmaaGreat
